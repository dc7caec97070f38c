/- Contracts of strings.Join and strconv.Itoa (small numbers), laid by the shelf's command. Texts of rankings and of profiles, of the program. Small helpers of the laws: sum, count, has, same. Contracts of calls, told short: values, lists, margins. -/
import Derived.Shelf.Strings.OnBuilder
import Derived.Shelf.Strconv.Itoa3
import Derived.Ground.Names2Prog
import Derived.Test.YtfmeklgdaabooaaGreatDoorChecked
import Derived.Test.YtfmeklgdaabooaaGreatDoorCn1
import Derived.Test.YtfmeklgdaabooaaGreatDoorCn7
import Derived.Test.YtfmeklgdaabooaaGreatDoorCn8
import Derived.Test.YtfmeklgdaabooaaGreatDoorCn9
import Derived.Laws.BytesArg
import Derived.Test.YtfmeklgdaabooaaGreatDoorCn5
import Derived.Test.YtfmeklgdaabooaaGreatDoorCn6
namespace Go.Proofs.YtfmeklgdaabooaaGreatDoor
open Go.RowKit

def Tryz.lays156_ren : Go.Shelf.Ren := ⟨fun | 156 => 63 | 165 => 101 | 166 => 102 | 169 => 103 | 240 => 125 | 241 => 126 | 276 => 140 | 277 => 141 | n => n, fun | 31 => 62 | 9 => 9 | 3 => 3 | 4 => 4 | 0 => 0 | 20 => 20 | 72 => 98 | 76 => 102 | 70 => 96 | 37 => 22 | 75 => 101 | 127 => 116 | 164 => 131 | 5 => 5 | 80 => 104 | n => n, fun | n => n⟩
set_option maxRecDepth 100000 in
theorem Tryz.lays156 : Go.Proofs.Lays.n156 Tryz.prog Tryz.lays156_ren := {
  mixed := by kernel_rfl
  f156 := Tryz.func63.trans (congrArg some (by kernel_rfl))
  f165 := Tryz.func101.trans (congrArg some (by kernel_rfl))
  f166 := Tryz.func102.trans (congrArg some (by kernel_rfl))
  f169 := Tryz.func103.trans (congrArg some (by kernel_rfl))
  f240 := Tryz.func125.trans (congrArg some (by kernel_rfl))
  f241 := Tryz.func126.trans (congrArg some (by kernel_rfl))
  f276 := Tryz.func140.trans (congrArg some (by kernel_rfl))
  f277 := Tryz.func141.trans (congrArg some (by kernel_rfl))
  t0 := Tryz.underlying0
  a0 := Tryz.isAgg0
  z0 := Tryz.sizeOf0
  v0 := Tryz.zeroValue0
  t3 := Tryz.underlying3
  a3 := Tryz.isAgg3
  z3 := Tryz.sizeOf3
  v3 := Tryz.zeroValue3
  t4 := Tryz.underlying4
  a4 := Tryz.isAgg4
  z4 := Tryz.sizeOf4
  v4 := Tryz.zeroValue4
  t9 := Tryz.underlying9
  a9 := Tryz.isAgg9
  z9 := Tryz.sizeOf9
  v9 := Tryz.zeroValue9
  t20 := Tryz.underlying20
  a20 := Tryz.isAgg20
  z20 := Tryz.sizeOf20
  v20 := Tryz.zeroValue20
  t31 := Tryz.underlying62
  a31 := Tryz.isAgg62
  z31 := Tryz.sizeOf62
  v31 := Tryz.zeroValue62
  t37 := Tryz.underlying22
  a37 := Tryz.isAgg22
  z37 := Tryz.sizeOf22
  v37 := Tryz.zeroValue22
  t70 := Tryz.underlying96
  a70 := Tryz.isAgg96
  z70 := Tryz.sizeOf96
  v70 := Tryz.zeroValue96
  t72 := Tryz.underlying98
  a72 := Tryz.isAgg98
  z72 := Tryz.sizeOf98
  v72 := Tryz.zeroValue98
  t75 := Tryz.underlying101
  a75 := Tryz.isAgg101
  z75 := Tryz.sizeOf101
  v75 := Tryz.zeroValue101
  t76 := Tryz.underlying102
  a76 := Tryz.isAgg102
  z76 := Tryz.sizeOf102
  v76 := Tryz.zeroValue102
  t127 := Tryz.underlying116
  a127 := Tryz.isAgg116
  z127 := Tryz.sizeOf116
  v127 := Tryz.zeroValue116
  t164 := Tryz.underlying131
  a164 := Tryz.isAgg131
  z164 := Tryz.sizeOf131
  v164 := Tryz.zeroValue131 }
set_option maxRecDepth 100000 in
theorem Tryz.Builder_Extra_156 : Builder.Extra Tryz.prog Tryz.lays156_ren := {
  sizeBuilder := by kernel_rfl
  liesBuilder := by kernel_rfl
  t5 := Tryz.underlying5
  a5 := Tryz.isAgg5
  z5 := Tryz.sizeOf5
  v5 := Tryz.zeroValue5
  infoByte := by kernel_rfl
  cellsByte := by kernel_rfl
  sizeByte := by kernel_rfl
  neB5 := by decide }
open Go.RowKit in
set_option maxRecDepth 100000 in
/-- No element: the empty string; the world is as it was. (Whatever the slice's address and capacity: a nil slice too.) (LAID: no walk: one application.) -/
theorem Tryz.strings_Join_none (a : Option Addr) (c : Nat) (sep : ByteArray) (w : World) :
    Calls Tryz.prog 63 #[.slice a 0 c, .string sep] w fun e w' => e = .returned (.string ⟨#[]⟩) ∧ w' = w := Any.strings_Join_none Tryz.lays156 Tryz.Builder_Extra_156 a c sep w
open Go.RowKit in
set_option maxRecDepth 100000 in
/-- strings.Join: "Join concatenates the elements of its first argument to create a single string. The separator string sep is placed between elements in the resulting string.": HOWEVER MANY ELEMENTS. Below the heap's end the world is as it was. (LAID: no walk: one application.) -/
theorem Tryz.strings_Join (bk o c : Nat) (xs : List ByteArray) (sep : ByteArray) (w : World) (hcells : ∀ (j : Nat) x, xs[j]? = some x → w.cell? ⟨bk, o + j, none⟩ = some (.string x)) (hbk : bk < w.heap.size) (hN : xs.length ≤ 140737488355328) (hcap : xs.length ≤ c) (hlen : (Lib.join (xs.map (·.data.toList)) sep.data.toList).length ≤ 140737488355328) :
    Calls Tryz.prog 63 #[.slice (some ⟨bk, o, none⟩) xs.length c, .string sep] w fun e w' => e = .returned (.string ⟨(Lib.join (xs.map (·.data.toList)) sep.data.toList).toArray⟩) ∧ Below w.heap.size w w' := Any.strings_Join Tryz.lays156 Tryz.Builder_Extra_156 bk o c xs sep w hcells hbk hN hcap hlen
def Tryz.lays171_ren : Go.Shelf.Ren := ⟨fun | 171 => 61 | 243 => 100 | 246 => 124 | 283 => 136 | 284 => 137 | 285 => 138 | 286 => 139 | 129 => 148 | 317 => 147 | 318 => 149 | 319 => 150 | 320 => 151 | 337 => 154 | 338 => 155 | n => n, fun | 3 => 3 | 9 => 9 | 2 => 2 | 4 => 4 | 171 => 126 | 0 => 0 | 53 => 121 | 37 => 22 | 5 => 5 | 173 => 129 | 212 => 139 | 51 => 118 | 20 => 20 | 213 => 140 | 46 => 68 | 232 => 143 | 233 => 144 | n => n, fun | 17 => 0 | 18 => 2 | 19 => 3 | n => n⟩
set_option maxRecDepth 100000 in
theorem Tryz.lays171 : Go.Proofs.Lays.n171 Tryz.prog Tryz.lays171_ren := {
  mixed := by kernel_rfl
  f129 := Tryz.func148.trans (congrArg some (by kernel_rfl))
  f171 := Tryz.func61.trans (congrArg some (by kernel_rfl))
  f243 := Tryz.func100.trans (congrArg some (by kernel_rfl))
  f246 := Tryz.func124.trans (congrArg some (by kernel_rfl))
  f283 := Tryz.func136.trans (congrArg some (by kernel_rfl))
  f284 := Tryz.func137.trans (congrArg some (by kernel_rfl))
  f285 := Tryz.func138.trans (congrArg some (by kernel_rfl))
  f286 := Tryz.func139.trans (congrArg some (by kernel_rfl))
  f317 := Tryz.func147.trans (congrArg some (by kernel_rfl))
  f318 := Tryz.func149.trans (congrArg some (by kernel_rfl))
  f319 := Tryz.func150.trans (congrArg some (by kernel_rfl))
  f320 := Tryz.func151.trans (congrArg some (by kernel_rfl))
  f337 := Tryz.func154.trans (congrArg some (by kernel_rfl))
  f338 := Tryz.func155.trans (congrArg some (by kernel_rfl))
  t0 := Tryz.underlying0
  a0 := Tryz.isAgg0
  z0 := Tryz.sizeOf0
  v0 := Tryz.zeroValue0
  t2 := Tryz.underlying2
  a2 := Tryz.isAgg2
  z2 := Tryz.sizeOf2
  v2 := Tryz.zeroValue2
  t3 := Tryz.underlying3
  a3 := Tryz.isAgg3
  z3 := Tryz.sizeOf3
  v3 := Tryz.zeroValue3
  t4 := Tryz.underlying4
  a4 := Tryz.isAgg4
  z4 := Tryz.sizeOf4
  v4 := Tryz.zeroValue4
  t5 := Tryz.underlying5
  a5 := Tryz.isAgg5
  z5 := Tryz.sizeOf5
  v5 := Tryz.zeroValue5
  t9 := Tryz.underlying9
  a9 := Tryz.isAgg9
  z9 := Tryz.sizeOf9
  v9 := Tryz.zeroValue9
  t20 := Tryz.underlying20
  a20 := Tryz.isAgg20
  z20 := Tryz.sizeOf20
  v20 := Tryz.zeroValue20
  t37 := Tryz.underlying22
  a37 := Tryz.isAgg22
  z37 := Tryz.sizeOf22
  v37 := Tryz.zeroValue22
  t46 := Tryz.underlying68
  a46 := Tryz.isAgg68
  z46 := Tryz.sizeOf68
  v46 := Tryz.zeroValue68
  t51 := Tryz.underlying118
  a51 := Tryz.isAgg118
  z51 := Tryz.sizeOf118
  v51 := Tryz.zeroValue118
  t53 := Tryz.underlying121
  a53 := Tryz.isAgg121
  z53 := Tryz.sizeOf121
  v53 := Tryz.zeroValue121
  t171 := Tryz.underlying126
  a171 := Tryz.isAgg126
  z171 := Tryz.sizeOf126
  v171 := Tryz.zeroValue126
  t173 := Tryz.underlying129
  a173 := Tryz.isAgg129
  z173 := Tryz.sizeOf129
  v173 := Tryz.zeroValue129
  t212 := Tryz.underlying139
  a212 := Tryz.isAgg139
  z212 := Tryz.sizeOf139
  v212 := Tryz.zeroValue139
  t213 := Tryz.underlying140
  a213 := Tryz.isAgg140
  z213 := Tryz.sizeOf140
  t232 := Tryz.underlying143
  a232 := Tryz.isAgg143
  z232 := Tryz.sizeOf143
  v232 := Tryz.zeroValue143
  t233 := Tryz.underlying144
  a233 := Tryz.isAgg144
  z233 := Tryz.sizeOf144
  v233 := Tryz.zeroValue144
  g17 := by kernel_rfl
  g18 := by kernel_rfl
  g19 := by kernel_rfl }
open Go.RowKit Go.Sort Go.Lib in
set_option maxRecDepth 100000 in
/-- THE ROAD WITHOUT THE TABLE: 0 <= i < 100: NO PREMISE ON THE WORLD, AND THE WORLD IS AS IT WAS: a row that keeps its argument in that range need list no table ('laid = []'). (LAID: no walk: one application.) -/
theorem Tryz.strconv_Itoa_small (i : Nat) (hi : i < 100) (w : World) :
    Calls Tryz.prog 61 #[.int .i64 i] w fun e w' => e = .returned (.string ⟨(Lib.decDigits i).toArray⟩) ∧ w' = w := Any.strconv_Itoa_small Tryz.lays171 i hi w

/-- A ranking's text. -/
def rkS (r : List Int) : ByteArray := strOfNums (r.map (fun a => 97 + a))
set_option maxRecDepth 100000 in
theorem info_u8 : (Tryz.prog.info? 5).map (fun i => (i.zero, i.size, i.bytes)) = some (some (.int .u8 0), 1, 1) := by kernel_rfl
set_option maxRecDepth 100000 in
theorem made_u8 (n j : Nat) (hj : j < n) : (madeCells (Value.int .u8 0).cells n).getD j undef = .int .u8 0 := by
  have h := toList_madeCells_one (.int .u8 0) n
  have h2 : (madeCells #[Value.int .u8 0] n).toList[j]? = some (.int .u8 0) := by rw [h]; simp [hj]
  show (madeCells #[Value.int .u8 0] n).getD j undef = _
  rw [Array.getElem?_toList] at h2
  simp [h2]

set_option maxRecDepth 100000 in
set_option maxHeartbeats 2000000 in
theorem frk_impl (w : World) (n : Nat) (a : Option Addr) (c : Nat) (r : List Int) (hR : RdI w a r) (hr : rkOk n r = true) (hc : n ≤ c) :
    Calls Tryz.prog 36 #[.slice a n c] w fun e w' => e = .returned (.string (rkS r)) ∧ Ext w w' := by
  have hl : r.length = n := by have := (rk_len hr).1; omega
  have n5 : n ≤ 5 := by have := (rk_len hr).2; omega
  have n1 : 1 ≤ n := by
    simp only [rkOk, Bool.and_eq_true] at hr
    have := inR_iff.1 hr.1
    omega
  have HI : Hid (∀ W, Ext w W → Calls Tryz.prog 62 #[.slice a n c] W fun e w' => e = .returned (.bool true) ∧ Ext W w') := hide (fun W hW => by
    have h := rank_impl W r.length a c r (hR.ext hW) (by omega)
    rw [show ((r.length : Nat) : Int) = n by omega, hr, hl] at h
    have HH := hide h
    go_enter Tryz.func62, Tryz.ntmps62
    go_wp2_with (go_at_call 27; refine (HH.out).mono ?_; rintro e w1 ⟨rfl, hw1⟩)
    go_ret
    exact ⟨rfl, hw1⟩)
  have HB := hide (fun (x : Int) (hx : x ∈ r) => rk_mem hr hx)
  have HL := hide hl
  obtain ⟨i0, hi, hz0, hz1, hz2⟩ := info_parts info_u8
  have hmk := fun W => run_make_rowN (P := Tryz.prog) 22 5 i0 _ Tryz.underlying22 hi hz0 .i64 .i64 n n (Nat.le_refl _) (by rw [hz2]; omega) (by omega) W
  rw [hz1, Nat.mul_one] at hmk
  clear hr hl
  go_enter Tryz.func36, Tryz.ntmps36
  go_wp2_with (go_at_call 62; refine (HI.out _ (by repeat (first | exact Ext.refl _ | assumption | refine Ext.alloc ?_ _ | refine Ext.drew ?_ | refine Ext.trans ?_ (by assumption)))).mono ?_; rintro e w1 ⟨rfl, hw1⟩)
  clear hmk
  have hB := BlkF.new w1 (madeCells #[.int .u8 0] n) 5
  rw [size_madeCells] at hB
  have hE := Ext.new w1 (.cells (madeCells #[.int .u8 0] n) 5)
  have hB := hB.congr (f' := fun o => .int .u8 (if o < 0 then 97 + r.getD o 0 else 0)) (fun o ho => by rw [if_neg (by omega)]; exact made_u8 n o ho)
  have hw : Ext w w1 := (by repeat (first | exact Ext.refl _ | assumption | refine Ext.alloc ?_ _ | refine Ext.drew ?_ | refine Ext.trans ?_ (by assumption)))
  obtain ⟨wb, hwb⟩ : ∃ wb : World, wb = w1 := ⟨_, rfl⟩
  subst hwb
  generalize wb.alloc (.cells (madeCells #[.int .u8 0] n) 5) = W1 at hB hE ⊢
  go_loopw [4, 5, 14] (fun _ _ i wr => ∃ j : Nat, j ≤ n ∧ i = .int .i64 j ∧ BlkF wr wb.heap.size n (fun o => .int .u8 (if o < j then 97 + r.getD o 0 else 0)) ∧ Ext wb wr) (fun _ _ i _ => n - (intOf i).toNat)
  case atStart => exact ⟨0, Nat.zero_le _, rfl, hB, hE⟩
  case round =>
    clear hB hE
    obtain ⟨j, hj, rfl, hB, hwr⟩ := hrel
    by_cases hlt : j < n
    · obtain ⟨x, hx⟩ := at_of_lt (xs := r) (k := j) (by have := HL.out; omega)
      obtain ⟨b, off, rfl, c0⟩ := ((hR.ext hw).ext hwr).at_ hx
      obtain ⟨x0, x1⟩ := HB.out x (List.mem_of_getElem? hx)
      have hg : r.getD j 0 = x := by simp [List.getD, hx]
      have d0 := hB.cell j hlt
      rw [if_neg (by omega)] at d0
      have z0 := hB.fr j
      have HB2 := hide hB
      have HG := hide hg
      have y1 : wrap64 (97 + x) = 97 + x := IntWalk.wrap64_in _ (by omega)
      have y2 : IntKind.u8.wrap (97 + x) = 97 + x := by
        unfold IntKind.wrap
        simp [IntKind.bits, IntKind.signed]
        omega
      clear hB hx hg
      go_wp2
      refine ⟨⟨j + 1, by omega, by go_num, (HB2.out.set j hlt _).congr (fun o ho => ?_), Ext.setCell hwr (Nat.le_refl _) _⟩, by simp [intOf]; omega⟩
      by_cases e : o = j
      · subst e; rw [if_pos rfl, if_pos (by omega), HG.out]
      · rw [if_neg e]
        by_cases e2 : o < j
        · rw [if_pos e2, if_pos (by omega)]
        · rw [if_neg e2, if_neg (by omega)]
    · have hcv := run_convert_bytes_arg (P := Tryz.prog) wr 22 5 Tryz.underlying22 Tryz.underlying5 wb.heap.size 0 n n (r.map (fun a => 97 + a)) (by rw [List.length_map]; exact HL.out) (fun i hi => by
        rw [Nat.zero_add, hB.cell i hi, if_pos (by omega)]
        obtain ⟨x, hx⟩ := at_of_lt (xs := r) (k := i) (by have := HL.out; omega)
        simp [List.getD, hx]) 9 Tryz.underlying9
      have hcv2 : (convert 22 9 (.slice (some ⟨wb.heap.size, 0, none⟩) n n)).run Tryz.prog wr = .ok (.string (rkS r)) wr := hcv
      clear hcv hB
      go_wp2
      go_ret
      exact ⟨rfl, hw.trans hwr⟩

set_option maxRecDepth 100000 in
set_option maxHeartbeats 1000000 in
theorem fint_impl (w : World) (i : Nat) (hi : i < 100) : Calls Tryz.prog 35 #[.int .i64 i] w fun e w' => e = .returned (.string ⟨(Lib.decDigits i).toArray⟩) ∧ Ext w w' := by
  have HC : Hid (∀ W, Calls Tryz.prog 61 #[.int .i64 i] W fun e w' => e = .returned (.string ⟨(Lib.decDigits i).toArray⟩) ∧ w' = W) := hide (fun W => Tryz.strconv_Itoa_small i hi W)
  go_enter Tryz.func35, Tryz.ntmps35
  go_wp2_with fail
  refine (HC.out _).mono ?_
  rintro e w1 ⟨rfl, rfl⟩
  go_wp2
  go_ret
  exact ⟨rfl, Ext.refl _⟩

/-- Texts that are appended one by one. -/
def RowsS (w : World) (B : Nat) (v : Value) (ss : List ByteArray) : Prop := w.ownsRow B 9 1 v ss.length (ss.map Value.string)
set_option maxRecDepth 100000 in
theorem RowsS.nil (w : World) (B : Nat) : RowsS w B (.slice none 0 0) [] := World.ownsRow_nil _ _ _ _
set_option maxRecDepth 100000 in
theorem RowsS.ext {w w' : World} {B : Nat} {v : Value} {ss : List ByteArray} (h : RowsS w B v ss) (hw : Ext w w') : RowsS w' B v ss := ownsRow_ext h hw
set_option maxRecDepth 100000 in
theorem info_str : (Tryz.prog.info? 9).map (fun i => (i.zero, i.size, i.bytes)) = some (some (.string ⟨#[]⟩), 1, 16) := by kernel_rfl
set_option maxRecDepth 100000 in
theorem RowsS.val {w : World} {B : Nat} {v : Value} {ss : List ByteArray} (h : RowsS w B v ss) : (v = .slice none 0 0 ∧ ss = []) ∨ ∃ g c, v = .slice (some ⟨g, 0, none⟩) ss.length c ∧ ss.length ≤ c ∧ g < w.heap.size ∧ ∀ (j : Nat) s, ss[j]? = some s → w.cell? ⟨g, 0 + j, none⟩ = some (.string s) := by
  have h0 := h
  obtain ⟨_, h2⟩ := h
  rcases h2 with ⟨rfl, h2⟩ | ⟨g, cap, cur, rfl, hg, hh, hc, hm, hs, ht⟩
  · exact .inl ⟨rfl, List.length_eq_zero_iff.1 h2⟩
  · have hl : g < w.heap.size := (World.ownsRow.lt h0 g rfl).2
    refine .inr ⟨g, cap, rfl, hc, hl, fun j s hj => ?_⟩
    have hjl := lt_of_at hj
    rw [Nat.zero_add, World.ownsRow.cellAt h0 j (by omega), List.getElem?_map, hj]
    rfl
set_option maxRecDepth 100000 in
theorem run_appS {w : World} (B : Nat) (ty : TypeId) (v : Value) (ss : List ByteArray) (s : ByteArray) (gx : Nat) (hown : RowsS w B v ss) (hB : B ≤ w.heap.size) (hc0 : w.cell? ⟨gx, 0, none⟩ = some (.string s)) (hlen : ss.length ≤ 100000) :
    ∃ v' w', (Builtin.append_ #[62, 62] ty #[v, .slice (some ⟨gx, 0, none⟩) 1 1]).run Tryz.prog w = .ok v' w' ∧ RowsS w' B v' (ss ++ [s]) ∧ w.grownBy w' v.ownBlock ∧ Fresh w v v' := by
  obtain ⟨i0, hi, hz0, hz1, hz2⟩ := info_parts info_str
  obtain ⟨v', w', hr, h1, h2, h3⟩ := run_append_any (P := Tryz.prog) w B 62 ty 9 i0 (.string ⟨#[]⟩) 1 16 Tryz.underlying62 hi hz0 hz1 hz2 rfl (by decide) v ss.length _ hown (some ⟨gx, 0, none⟩) 1 1 [.string s] rfl
    (fun _ => ⟨_, rfl, fun j u hj => by
      match j, hj with
      | 0, hj => simp at hj; subst hj; simpa [Addr.add] using hc0⟩)
    (fun u hu => by
      simp at hu
      subst hu
      rfl) (by unfold maxLen; omega) (by omega) hB
  refine ⟨v', w', hr, ?_, h2, h3⟩
  unfold RowsS
  rw [List.map_append, List.length_append]
  exact h1
set_option maxRecDepth 100000 in
theorem oper_appS {o : Oper} {a : Act} {K : World → Act → Prop} (B : Nat) (w3 : World) (s x : Operand)
    (ho : o.op = .call { callee := .builtin .append, args := #[s, x], argTypes := #[62, 62] }) (v : Value) (ss : List ByteArray) (e : ByteArray) (gx : Nat) (hs : a.eval s = v) (hown : RowsS w3 B v ss) (hB : B ≤ w3.heap.size)
    (hx : a.eval x = .slice (some ⟨gx, 0, none⟩) 1 1) (hc0 : w3.cell? ⟨gx, 0, none⟩ = some (.string e)) (hlen : ss.length ≤ 100000)
    (h : ∀ v' w', RowsS w' B v' (ss ++ [e]) → w3.grownBy w' v.ownBlock → Fresh w3 v v' → K w' (a.put o.dst v')) : o.wp Tryz.prog a w3 (fun a' w' => K w' a') NoExit := by
  obtain ⟨v', w', hr, h1, h2, h3⟩ := run_appS B o.type v ss e gx hown hB hc0 hlen
  unfold Oper.wp execOp
  simp only [ho, resolve, invoke, builtin, Sem.run_bind, Sem.run_pure, Result.andThen_ok, List.map_toArray, List.map_cons, List.map_nil, hs, hx, hr]
  exact h v' w' h1 h2 h3

/-- A vote's text. -/
def wdS (x : Vt) : ByteArray := (⟨(Lib.decDigits x.2.toNat).toArray⟩ ++ ⟨#[42]⟩) ++ rkS x.1

set_option maxRecDepth 100000 in
set_option maxHeartbeats 1000000 in
theorem joi_impl (w : World) (v : Value) (s t : ByteArray) (h : Hid (Calls Tryz.prog 63 #[v, .string s] w fun e w' => e = .returned (.string t) ∧ Ext w w')) :
    Calls Tryz.prog 37 #[v, .string s] w fun e w' => e = .returned (.string t) ∧ Ext w w' := by
  go_enter Tryz.func37, Tryz.ntmps37
  go_wp2_with fail
  refine h.out.mono ?_
  rintro e w1 ⟨rfl, hw1⟩
  go_wp2
  go_ret
  exact ⟨rfl, hw1⟩
set_option maxRecDepth 100000 in
theorem wd_len {x : Vt} (h1 : 1 ≤ x.2) (h6 : x.2 ≤ 6) (h5 : x.1.length ≤ 5) : (wdS x).data.toList.length ≤ 7 := by
  obtain ⟨N, hN⟩ : ∃ N : Nat, x.2 = N := ⟨x.2.toNat, by omega⟩
  have hd : (Lib.decDigits x.2.toNat).length = 1 := by
    rw [hN, Int.toNat_natCast, Lib.decDigits, dif_pos (by omega)]
    rfl
  have hs : (rkS x.1).data.toList.length = x.1.length := by
    unfold rkS
    rw [strOfNums_data, List.length_map, List.length_map]
  unfold wdS
  simp only [ByteArray.data_append, Array.toList_append, List.length_append, hs, hd]
  simp
  omega
set_option maxRecDepth 100000 in
theorem lens_bd : ∀ {vs : List Vt}, (∀ x ∈ vs, 1 ≤ x.2 ∧ x.2 ≤ 6 ∧ x.1.length ≤ 5) → Lib.lens ((vs.map wdS).map (·.data.toList)) ≤ 7 * vs.length
  | [], _ => by simp [Lib.lens]
  | x :: vs, h => by
    have ih := lens_bd (vs := vs) (fun y hy => h y (List.mem_cons_of_mem _ hy))
    obtain ⟨h1, h2, h3⟩ := h x (by simp)
    have hw := wd_len h1 h2 h3
    unfold Lib.lens at ih ⊢
    rw [List.map_cons, List.map_cons, List.map_cons, List.sum_cons, List.length_cons]
    omega
set_option maxRecDepth 100000 in
theorem join_bd {vs : List Vt} (h : ∀ x ∈ vs, 1 ≤ x.2 ∧ x.2 ≤ 6 ∧ x.1.length ≤ 5) : (Lib.join ((vs.map wdS).map (·.data.toList)) [32]).length ≤ 8 * vs.length := by
  cases vs with
  | nil => simp [Lib.join_nil]
  | cons x vs =>
    have hl := lens_bd h
    rw [List.map_cons, List.map_cons] at hl ⊢
    rw [Lib.join_length]
    simp only [List.length_map, List.length_cons, List.length_nil] at hl ⊢
    omega

set_option maxRecDepth 100000 in
set_option maxHeartbeats 4000000 in
theorem fpr_impl (w : World) (n : Nat) (a : Option Addr) (c : Nat) (vs : List Vt) (hR : RdV w a vs) (h0 : profOk n vs = true) (hne : 1 ≤ vs.length) (h6 : ∀ x ∈ vs, x.2 ≤ 6) :
    Calls Tryz.prog 18 #[.agg #[.int .i64 n, .slice a vs.length c]] w fun e w' => e = .returned (.string ⟨(Lib.join ((vs.map wdS).map (·.data.toList)) [32]).toArray⟩) ∧ Ext w w' := by
  have q0 := new0 w (.int .i64 n) [.slice a vs.length c] 26
  have q1 := new1 w (.int .i64 n) (.slice a vs.length c) [] 26
  have HS := hide (prof_small h0)
  have hvl := (prof_small h0).1
  have hsz := (prof_size h0).2
  have H6 := hide h6
  have HPO : Hid (∀ W, Ext w W → Calls Tryz.prog 25 #[.agg #[.int .i64 n, .slice a vs.length c]] W fun e w' => e = .returned (.bool true) ∧ Ext W w') := hide (fun W hW => by
    have h := prof_impl W n a c vs (hR.ext hW)
    rw [h0] at h
    exact h)
  have hl0 : ((vs.length : Int) == 0) = false := by rw [beq_eq_false_iff_ne]; omega
  clear h0 h6
  go_enter Tryz.func18, Tryz.ntmps18
  go_wp2_with (go_at_call 25; refine (HPO.out _ (by repeat (first | exact Ext.refl _ | assumption | refine Ext.alloc ?_ _ | refine Ext.drew ?_ | refine Ext.trans ?_ (by assumption)))).mono ?_; rintro e w1 ⟨rfl, hw1⟩; have q0 := Ext.keep (w' := w1) (by repeat (first | exact Ext.refl _ | assumption | refine Ext.alloc ?_ _ | refine Ext.drew ?_ | refine Ext.trans ?_ (by assumption))) q0; have q1 := Ext.keep (w' := w1) (by repeat (first | exact Ext.refl _ | assumption | refine Ext.alloc ?_ _ | refine Ext.drew ?_ | refine Ext.trans ?_ (by assumption))) q1)
  clear hl0
  have hw : Ext w w1 := (by repeat (first | exact Ext.refl _ | assumption | refine Ext.alloc ?_ _ | refine Ext.drew ?_ | refine Ext.trans ?_ (by assumption)))
  obtain ⟨wb, hwb⟩ : ∃ wb : World, wb = w1 := ⟨_, rfl⟩
  subst hwb
  clear HPO hw1
  go_loopw [3, 5, 20] (fun z _ i wr => ∃ (k : Nat) (v : Value) (ss : List ByteArray), k ≤ vs.length ∧ i = .int .i64 k ∧ Hid (z = v) ∧ RowsS wr wb.heap.size v ss ∧ Hid (ss = (vs.take k).map wdS) ∧ Ext wb wr) (fun _ _ i _ => vs.length - (intOf i).toNat)
  case atStart => exact ⟨0, _, [], Nat.zero_le _, rfl, rfl, RowsS.nil _ _, hide rfl, Ext.refl _⟩
  case round =>
    obtain ⟨k, v, ss, hk, rfl, HZ, hown, HSS, hwr⟩ := hrel
    have hz := HZ.out.symm
    clear HZ
    subst hz
    have hww := hw.trans hwr
    by_cases hlt : k < vs.length
    · obtain ⟨x, hx⟩ := at_of_lt hlt
      obtain ⟨b, off, a', c', rfl, c0, c1, hc', hRx⟩ := (hR.ext hww).at_ hx
      obtain ⟨x0, x1, x2⟩ := HS.out.2 x (List.mem_of_getElem? hx)
      have x6 := H6.out x (List.mem_of_getElem? hx)
      have hxl : x.1.length = n := by have := (rk_len x0).1; omega
      obtain ⟨N, hN⟩ : ∃ N : Nat, x.2 = N := ⟨x.2.toNat, by omega⟩
      have HI : Hid (∀ W, Calls Tryz.prog 35 #[.int .i64 x.2] W fun e w' => e = .returned (.string ⟨(Lib.decDigits x.2.toNat).toArray⟩) ∧ Ext W w') := hide (fun W => by
        rw [hN, Int.toNat_natCast]
        exact fint_impl W N (by omega))
      have HK : Hid (∀ W, Ext wr W → Calls Tryz.prog 36 #[.slice a' x.1.length c'] W fun e w' => e = .returned (.string (rkS x.1)) ∧ Ext W w') := hide (fun W hW => by
        have h := frk_impl W n a' c' x.1 (hRx.ext hW) x0 (by omega)
        rw [← hxl] at h
        exact h)
      have HT : Hid ((vs.take (k + 1)).map wdS = (vs.take k).map wdS ++ [wdS x]) := hide (by rw [take_at hx, List.map_append]; rfl)
      have hel : ss.length ≤ 100000 := by
        rw [HSS.out, List.length_map, List.length_take]
        omega
      have e0 := new0 wr (.slice a' x.1.length c') [.int .i64 x.2] 30
      have e1 := new1 wr (.slice a' x.1.length c') (.int .i64 x.2) [] 30
      have HOW := hide hown
      have hW : wdS x = (⟨(Lib.decDigits x.2.toNat).toArray⟩ ++ ⟨#[42]⟩) ++ rkS x.1 := rfl
      have hds : (⟨(Lib.decDigits x.2.toNat).toArray⟩ : ByteArray).size = 1 := by
        rw [hN, Int.toNat_natCast, Lib.decDigits, dif_pos (by omega)]
        rfl
      have hrs : (rkS x.1).size ≤ 5 := by
        unfold rkS
        rw [strOfNums_size, List.length_map]
        omega
      generalize wdS x = wd at HT hW
      generalize (⟨(Lib.decDigits x.2.toNat).toArray⟩ : ByteArray) = D at HI hW hds
      generalize rkS x.1 = R at HK hW hrs
      have hd1 : ¬ 9223372036854775807 < D.size + 1 := by omega
      have hd2 : ¬ 9223372036854775807 < D.size + 1 + R.size := by omega
      have HW := hide hW
      clear hx hRx hN hxl hown x0 x1 x2 x6 hds hrs hW
      go_wp2
      refine wp_region_P [0,1,2,3,4,5,6,7,8,9,10,11] (by kernel_rfl) rfl (by kernel_rfl) ?_
      repeat' (refine wpP_stepQ rfl (fun K hK => ?_)
               go_simp
               try (rw [if_neg (by intro h; simp [undef] at h)])
               try split
               all_goals
                 first
                 | (refine hK _ ?_
                    clear hK K)
                 | (apply Exists.intro
                    refine ⟨fun wq hwq => ?_, hK _ ?_⟩
                    · have hcq := hwq.cellS
                      go_simp
                      first
                      | exact ⟨Ext.refl _, rfl⟩
                    clear hK K))
      refine wpP_stepQ rfl (fun K hK => ?_)
      go_simp
      apply Exists.intro
      refine ⟨fun wq hwq => ?_, hK _ ?_⟩
      · have hcq := hwq.cellS
        go_simp
        exact ⟨Ext.refl _, HI.out _⟩
      clear hK K
      repeat' (refine wpP_stepQ rfl (fun K hK => ?_)
               go_simp
               try (rw [if_neg (by intro h; simp [undef] at h)])
               try split
               all_goals
                 first
                 | (refine hK _ ?_
                    clear hK K)
                 | (apply Exists.intro
                    refine ⟨fun wq hwq => ?_, hK _ ?_⟩
                    · have hcq := hwq.cellS
                      go_simp
                      first
                      | exact ⟨Ext.refl _, rfl⟩
                    clear hK K))
      refine wpP_stepQ rfl (fun K hK => ?_)
      go_simp
      apply Exists.intro
      refine ⟨fun wq hwq => ?_, hK _ ?_⟩
      · have hcq := hwq.cellS
        go_simp
        exact ⟨Ext.refl _, HK.out _ (by repeat (first | exact Ext.refl _ | assumption | refine Ext.alloc ?_ _ | refine Ext.drew ?_ | refine Ext.trans ?_ (by assumption)))⟩
      clear hK K
      repeat' (refine wpP_stepQ rfl (fun K hK => ?_)
               go_simp
               try (rw [if_neg (by intro h; simp [undef] at h)])
               try split
               all_goals
                 first
                 | (refine hK _ ?_
                    clear hK K)
                 | (apply Exists.intro
                    refine ⟨fun wq hwq => ?_, hK _ ?_⟩
                    · have hcq := hwq.cellS
                      go_simp
                      first
                      | exact ⟨Ext.refl _, rfl⟩
                    clear hK K))
      refine wpP_stepS rfl (by kernel_rfl) (fun K hK wq hwq => ?_)
      go_simp
      refine ⟨(by repeat (first | exact Ext.refl _ | assumption | refine Ext.alloc ?_ _ | refine Ext.drew ?_ | refine Ext.trans ?_ (by assumption))), hK _ _ ?_⟩
      clear hK K
      refine wpP_stepC rfl (by kernel_rfl) (fun K hK' wa hwa => ?_)
      refine Eq.mpr (if_pos rfl) ?_
      have hEa : Ext wr wa := (by repeat (first | exact Ext.refl _ | assumption | refine Ext.alloc ?_ _ | refine Ext.drew ?_ | refine Ext.trans ?_ (by assumption)))
      have hLa := HOW.out.ext hEa
      refine oper_appS wb.heap.size wa _ _ rfl v ss wd _ rfl hLa (Ext.size (hwr.trans hEa)) rfl (by rw [HW.out]; exact hwa.keep (new0 wq _ _ _)) hel ?_
      intro v' w5 hown5 hg5 hf5
      have hE5 : Ext wb w5 := Ext.grown (hwr.trans hEa) hg5 (fun b hb => (World.ownsRow.lt hLa b hb).1)
      refine hK' _ _ ?_
      clear hK' K
      repeat' (refine wpP_stepQ rfl (fun K hK => ?_)
               go_simp
               try (rw [if_neg (by intro h; simp [undef] at h)])
               try split
               all_goals
                 first
                 | (refine hK _ ?_
                    clear hK K)
                 | (apply Exists.intro
                    refine ⟨fun wq hwq => ?_, hK _ ?_⟩
                    · have hcq := hwq.cellS
                      go_simp
                      first
                      | exact ⟨Ext.refl _, rfl⟩
                    clear hK K))
      refine wpP_nil (fun wz hwz => ?_)
      go_wp2
      exact ⟨⟨k + 1, v', ss ++ [wd], by omega, by go_num, rfl, hown5.ext hwz, hide (by rw [HT.out, HSS.out]), hE5.trans hwz⟩, by simp [intOf]; omega⟩
    · have hss : ss = vs.map wdS := by rw [HSS.out, List.take_of_length_le (by omega)]
      have hsl : ss.length = vs.length := by rw [hss, List.length_map]
      obtain ⟨gv, cv, rfl, hcv, hgl, hcs⟩ : ∃ g c, v = .slice (some ⟨g, 0, none⟩) ss.length c ∧ ss.length ≤ c ∧ g < wr.heap.size ∧ ∀ (j : Nat) s, ss[j]? = some s → wr.cell? ⟨g, 0 + j, none⟩ = some (.string s) := by
        rcases hown.val with ⟨_, h2⟩ | h
        · rw [h2] at hsl; simp at hsl; omega
        · exact h
      have hbd := join_bd (fun x hx => ⟨(HS.out.2 x hx).2.1, H6.out x hx, (rk_len (HS.out.2 x hx).1).2⟩)
      have HJ0 : Hid (Calls Tryz.prog 63 #[.slice (some ⟨gv, 0, none⟩) ss.length cv, .string ⟨#[32]⟩] wr fun e w' => e = .returned (.string ⟨(Lib.join (ss.map (·.data.toList)) [32]).toArray⟩) ∧ Ext wr w') := hide (Tryz.strings_Join gv 0 cv ss ⟨#[32]⟩ wr hcs hgl (by omega) hcv (by
        rw [hss]
        exact Nat.le_trans hbd (by omega)))
      have HJ := hide (joi_impl wr _ _ _ HJ0)
      have HFIN := hide hss
      clear hss hcs hbd hown HSS HJ0 hsl
      go_wp2_with fail
      refine HJ.out.mono ?_
      rintro e w5 ⟨rfl, hw5⟩
      go_wp2
      go_ret
      exact ⟨congrArg (fun z : List ByteArray => Ending.returned (Value.string ⟨(Lib.join (List.map (fun s : ByteArray => s.data.toList) z) [32]).toArray⟩)) HFIN.out, hww.trans hw5⟩

def Bd (xs : List Int) : Prop := ∀ x ∈ xs, -1000000000000 ≤ x ∧ x ≤ 1000000000000
set_option maxRecDepth 100000 in
theorem sum_at {xs : List Int} {k : Nat} {x : Int} (h : xs[k]? = some x) : (xs.take (k + 1)).sum = (xs.take k).sum + x := by rw [take_at h, List.sum_append]; simp
set_option maxRecDepth 100000 in
theorem sum_bd {xs : List Int} (h : Bd xs) : ∀ k, k ≤ xs.length → -1000000000000 * (k : Int) ≤ (xs.take k).sum ∧ (xs.take k).sum ≤ 1000000000000 * (k : Int)
  | 0, _ => by simp
  | k + 1, hk => by
    obtain ⟨x, hx⟩ := at_of_lt (xs := xs) (k := k) (by omega)
    have ih := sum_bd h k (by omega)
    have h2 := h x (List.mem_of_getElem? hx)
    rw [sum_at hx]
    omega

set_option maxRecDepth 100000 in
set_option maxHeartbeats 1000000 in
theorem count_law (w : World) (a : Option Addr) (n c : Nat) (xs : List Int) (x : Int) (hn : n = xs.length) (hR : RdI w a xs) (hl : xs.length ≤ 1000) :
    Calls Tryz.prog 32 #[.slice a n c, .int .i64 x] w fun e w' => e = .returned (.int .i64 (xs.countP (fun y => y == x) : Nat)) ∧ Ext w w' := by
  subst hn
  go_enter Tryz.func32, Tryz.ntmps32
  go_wp2_with fail
  go_loopw [5, 7, 10] (fun s _ i wr => ∃ k : Nat, k ≤ xs.length ∧ i = .int .i64 k ∧ s = .int .i64 ((xs.take k).countP (fun y => y == x) : Nat) ∧ Ext w wr) (fun _ _ i _ => xs.length - (intOf i).toNat)
  case atStart => exact ⟨0, Nat.zero_le _, rfl, rfl, Ext.refl _⟩
  case round =>
    obtain ⟨k, hk, rfl, rfl, hwr⟩ := hrel
    have hc := List.countP_le_length (p := fun y => y == x) (l := xs.take k)
    rw [List.length_take] at hc
    by_cases hkt : k < xs.length
    · obtain ⟨y, hy⟩ := at_of_lt hkt
      obtain ⟨b, off, rfl, c0⟩ := (hR.ext hwr).at_ hy
      have HN : Hid ((xs.take (k + 1)).countP (fun y => y == x) = (xs.take k).countP (fun y => y == x) + if (y == x) = true then 1 else 0) := hide (by rw [take_at hy, List.countP_append, List.countP_cons, List.countP_nil]; simp)
      clear hy
      cases hq : (y == x)
      all_goals
        rw [hq] at HN
        go_wp2
        refine ⟨⟨k + 1, by omega, by go_num, ?_, hwr⟩, by simp [intOf]; omega⟩
        rw [HN.out]
        simp
    · have HN : Hid ((xs.take k).countP (fun y => y == x) = xs.countP (fun y => y == x)) := hide (by rw [List.take_of_length_le (by omega)])
      go_wp2
      go_ret
      exact ⟨ret_int (by rw [HN.out]), hwr⟩

set_option maxRecDepth 100000 in
set_option maxHeartbeats 1000000 in
theorem has_law (w : World) (a : Option Addr) (n c : Nat) (xs : List Int) (x : Int) (hn : n = xs.length) (hR : RdI w a xs) (hl : xs.length ≤ 1000) :
    Calls Tryz.prog 13 #[.slice a n c, .int .i64 x] w fun e w' => e = .returned (.bool (hasI xs x)) ∧ Ext w w' := by
  have HC := hide (count_law w a n c xs x hn hR hl)
  clear hR hn
  go_enter Tryz.func13, Tryz.ntmps13
  go_wp2_with fail
  refine HC.out.mono ?_
  rintro e w1 ⟨rfl, hw1⟩
  go_wp2
  go_ret
  exact ⟨ret_bool (by rw [Bool.eq_iff_iff, decide_eq_true_iff, hasI_iff]), hw1⟩

set_option maxRecDepth 100000 in
set_option maxHeartbeats 1000000 in
theorem same_law (w : World) (a a2 : Option Addr) (n n2 c c2 : Nat) (xs : List Int) (hn : n = xs.length) (hn2 : n2 = xs.length) (hR : RdI w a xs) (hR2 : RdI w a2 xs) (hl : xs.length ≤ 1000) :
    Calls Tryz.prog 12 #[.slice a n c, .slice a2 n2 c2] w fun e w' => e = .returned (.bool true) ∧ Ext w w' := by
  subst hn
  subst hn2
  go_enter Tryz.func12, Tryz.ntmps12
  go_wp2_with fail
  go_loopw [5, 6, 14] (fun _ _ i wr => ∃ k : Nat, k ≤ xs.length ∧ i = .int .i64 k ∧ Ext w wr) (fun _ _ i _ => xs.length - (intOf i).toNat)
  case atStart => exact ⟨0, Nat.zero_le _, rfl, Ext.refl _⟩
  case round =>
    obtain ⟨k, hk, rfl, hwr⟩ := hrel
    by_cases hkt : k < xs.length
    · obtain ⟨x, hx⟩ := at_of_lt hkt
      obtain ⟨b, off, rfl, c0⟩ := (hR.ext hwr).at_ hx
      obtain ⟨b2, off2, rfl, c1⟩ := (hR2.ext hwr).at_ hx
      clear hx
      go_wp2
      exact ⟨⟨k + 1, by omega, by go_num, hwr⟩, by simp [intOf]; omega⟩
    · go_wp2
      go_ret
      exact ⟨rfl, hwr⟩

/-- A call that returns a value, from a world on. -/
def ValC (K : Nat) (args : Array Value) (W0 : World) (v : Value) : Prop := ∀ W, Ext W0 W → Calls Tryz.prog K args W fun e w' => e = .returned v ∧ Ext W w'
/-- A call that returns a list of numbers, from a world on. -/
def LstC (K : Nat) (args : Array Value) (W0 : World) (xs : List Int) : Prop := ∀ W, Ext W0 W → Calls Tryz.prog K args W fun e w' => ∃ a c, e = .returned (.slice a xs.length c) ∧ RdI w' a xs ∧ xs.length ≤ c ∧ Ext W w'
set_option maxRecDepth 100000 in
theorem ValC.at {K : Nat} {args : Array Value} {W0 : World} {v : Value} (h : ValC K args W0 v) (W : World) (hW : Ext W0 W) : Calls Tryz.prog K args W fun e w' => e = .returned v ∧ Ext W w' := h W hW
set_option maxRecDepth 100000 in
theorem LstC.at {K : Nat} {args : Array Value} {W0 : World} {xs : List Int} (h : LstC K args W0 xs) (W : World) (hW : Ext W0 W) : Calls Tryz.prog K args W fun e w' => ∃ a c, e = .returned (.slice a xs.length c) ∧ RdI w' a xs ∧ xs.length ≤ c ∧ Ext W w' := h W hW
set_option maxRecDepth 100000 in
theorem margO_eq {n : Nat} {vs : List Vt} (h0 : profOk n vs = true) {x y : Nat} (hx : x < n) (hy : y < n) : marginO n vs x y = marginV vs x y := by
  unfold marginO
  have e1 : hasB n x = true := inR_iff.2 (by omega)
  have e2 : hasB n y = true := inR_iff.2 (by omega)
  rw [h0, e1, e2]
  rfl

end Go.Proofs.YtfmeklgdaabooaaGreatDoor
