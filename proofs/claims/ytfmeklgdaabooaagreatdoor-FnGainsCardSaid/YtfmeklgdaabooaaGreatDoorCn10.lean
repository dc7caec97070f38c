/- Rankings and profiles that a code is. Pairs that are kept as long as they make no cycle, and the order that they give (plain law). All orders of a list: the two ways of naming them answer alike (plain law). -/
import Derived.Test.YtfmeklgdaabooaaGreatDoorCn4
import Derived.Test.YtfmeklgdaabooaaGreatDoorCn8
import Derived.Test.YtfmeklgdaabooaaGreatDoorCn9
import Derived.Test.YtfmeklgdaabooaaGreatDoorCn7
import Derived.Test.YtfmeklgdaabooaaGreatDoorCn6
namespace Go.Proofs.YtfmeklgdaabooaaGreatDoor
open Go.RowKit

set_option maxRecDepth 100000 in
theorem rk_of_perm {m : Nat} (m1 : 1 ≤ m) (m5 : m ≤ 5) {r : List Int} (h : r.Perm (iotaL m)) : rkOk m r = true := by
  have hl : r.length = m := by rw [h.length_eq]; exact rowL_len _ _
  have hin : ∀ x ∈ r, 0 ≤ x ∧ x ≤ (m : Int) - 1 := fun x hx => by
    have h1 := h.mem_iff.1 hx
    obtain ⟨j, hj⟩ := List.mem_iff_getElem?.1 h1
    obtain ⟨h2, rfl⟩ := rowL_val hj
    omega
  have hnd : r.Nodup := by rw [h.nodup_iff, iotaL_up]; exact upL_nodup _ _
  simp only [rkOk, Bool.and_eq_true, decide_eq_true_eq, List.all_eq_true]
  exact ⟨inR_iff.2 (by omega), by omega, fun x hx => inR_iff.2 (hin x hx), hnd⟩

set_option maxRecDepth 100000 in
set_option maxHeartbeats 2000000 in
theorem draw_spec (w : World) (g m : Nat) (hC : Cur w g) (m1 : 1 ≤ m) (m5 : m ≤ 5) :
    Calls Tryz.prog 22 #[.pointer (some ⟨g, 0, none⟩), .int .i64 m] w fun e w' => ∃ v, e = .returned v ∧ ∃ r, OwnI w' w.heap.size v r ∧ rkOk m r = true ∧ Cur w' g ∧ Only g w w' := by
  have HCu := hide hC
  have hgl := hC.lt
  clear hC
  go_enter Tryz.func22, Tryz.ntmps22
  go_wp2_with fail
  have hO := OwnI.made0 w
  have hE := Ext.new w (.cells #[] 3)
  generalize w.alloc (.cells #[] 3) = W0 at hO hE ⊢
  go_loopw [5, 6] (fun v i wr => ∃ k : Nat, k ≤ m ∧ i = .int .i64 k ∧ OwnI wr w.heap.size v (iotaL k) ∧ Ext w wr) (fun _ i _ => m - (intOf i).toNat)
  case atStart => exact ⟨0, Nat.zero_le _, rfl, hO, hE⟩
  case round =>
    clear hO hE
    obtain ⟨k, hk, rfl, hown, hwr⟩ := hrel
    have hil : (iotaL k).length = k := rowL_len _ _
    by_cases hkt : k < m
    · have HS : Hid (iotaL (k + 1) = iotaL k ++ [(k : Int)]) := rowL_succ _ _
      go_wp2_with (at_builtin; go_loud (refine wpList_appI w wr rfl _ _ rfl _ (iotaL k) _ rfl (by exact hown) hwr rfl (by omega) ?_); intro v' w4 hown4 hw4)
      exact ⟨⟨k + 1, by omega, by go_num, by rw [HS.out]; exact hown4, hw4⟩, by simp [intOf]; omega⟩
    · have hkm : k = m := by omega
      obtain ⟨r, hr⟩ : ∃ r, r = iotaL k := ⟨_, rfl⟩
      have hrl : r.length = m := by rw [hr, hil, hkm]
      have HP : Hid (r.Perm (iotaL m)) := hide (by rw [hr, hkm])
      rw [← hr] at hown
      obtain ⟨a, c, rfl, hc, hj1, hj2, ho⟩ := hown.val
      clear hj1 hj2
      obtain ⟨b, rfl, hb, hj3⟩ := ho (fun e => by rw [e] at hrl; simp at hrl; omega)
      rw [hrl] at hown ⊢
      have HO := hide hown
      have HCr := hide (HCu.out.ext hwr)
      have hwO := Only.of_ext (g := g) hwr
      clear hkm hr hil hown hc ho hwr hrl hj3
      go_wp2
      go_loopw [7, 8, 9] (fun i _ _ wr => ∃ (k : Nat) (r : List Int), k < m ∧ i = .int .i64 k ∧ Hid (OwnI wr w.heap.size (.slice (some ⟨b, 0, none⟩) m c) r) ∧ Hid (r.Perm (iotaL m)) ∧ Hid (Cur wr g) ∧ Only g w wr) (fun i _ _ _ => (intOf i).toNat)
      case atStart => exact ⟨m - 1, r, by omega, congrArg (Value.int .i64) (by omega), HO, HP, HCr, hwO⟩
      case round =>
        clear HO HP HCr hwO r
        obtain ⟨k, r, hk, rfl, HO, HP, HCr, hwO⟩ := hrel
        have hrl : r.length = m := by rw [HP.out.length_eq]; exact rowL_len _ _
        by_cases hk0 : 0 < k
        · have hk1 : (0 : Int) < (k : Int) := by omega
          have hcall := below_spec wr g (k + 1) HCr.out (by omega) (by omega)
          rw [show ((k + 1 : Nat) : Int) = (k : Int) + 1 from rfl] at hcall
          have HC := hide hcall
          have HRL := hide hrl
          clear hcall hrl
          go_wp2_with fail
          refine HC.out.mono ?_
          rintro e w1 ⟨q, rfl, hq, hC1, hO1⟩
          have hown := HO.out.only hgl hO1
          have hrl := HRL.out
          obtain ⟨x, hx⟩ := at_of_lt (xs := r) (k := k) (by omega)
          obtain ⟨y, hy⟩ := at_of_lt (xs := r) (k := q) (by omega)
          obtain ⟨d0, z0, hst⟩ := hown.storeAt hx
          obtain ⟨d1, z1, _⟩ := hown.storeAt hy
          have hown2 := hst y
          have hy2 : ((r.set k y))[q]? = some y := by
            rw [List.getElem?_set]
            by_cases e : k = q
            · subst e; rw [if_pos rfl, if_pos (by omega)]
            · rw [if_neg e]; exact hy
          obtain ⟨d2, z2, hst2⟩ := hown2.storeAt hy2
          have hown3 := hst2 x
          have hpm : ((r.set k y).set q x).Perm r := by
            have h := List.set_set_perm («as» := r) (i := k) (j := q) (by omega) (by omega)
            rw [List.getElem?_eq_getElem (by omega)] at hx hy
            injection hx with hx
            injection hy with hy
            rw [hx, hy] at h
            exact h
          have HP2 := hide (hpm.trans HP.out)
          have HOW := hide hown3
          have hf1 := ((hwO.trans hO1).fresh (setCell_row w1 b k (.int .i64 y)) hb).fresh (setCell_row _ b q (.int .i64 x)) hb
          have hC3 := ((hC1.only (g' := b) (by omega) ((Only.refl b w1).setCell k (.int .i64 y))).only (g' := b) (by omega) ((Only.refl b _).setCell q (.int .i64 x)))
          have HC3 := hide hC3
          have HF := hide hf1
          have hqm : q < m := by omega
          clear hx hy hst hst2 hown hown2 hown3 hpm hy2 hf1 hC3 hC1 hO1 hrl
          go_wp2
          exact ⟨⟨k - 1, _, by omega, congrArg (Value.int .i64) (by omega), HOW, HP2, HC3, HF.out⟩, by simp [intOf]; omega⟩
        · have hk1 : ¬ (0 : Int) < (k : Int) := by omega
          go_wp2
          go_ret
          exact ⟨_, rfl, r, HO.out, rk_of_perm m1 m5 HP.out, HCr.out, hwO⟩

set_option maxRecDepth 100000 in
theorem Cur.grown {w w' : World} {g : Nat} {row : Option Nat} (h : Cur w g) (hg : w.grownBy w' row) (hr : ∀ k, row = some k → g < k) : Cur w' g := by
  obtain ⟨a, bs, c, i, k, hB, h1, h2, hR, h3⟩ := h
  have keep : ∀ (q : Addr) (v : Value), q.block ≤ g → w.cell? q = some v → w'.cell? q = some v := fun q v hq hc =>
    (World.cell?_of_block (w := w) (hg.block q.block (World.block_lt_of_cell? w q hc) (fun e => by have := hr _ e.symm; omega))).trans hc
  refine ⟨a, bs, c, i, k, hB.grown hg (fun k hk => by have := hr k hk; omega), h1, h2, fun hne => ?_, h3⟩
  obtain ⟨b, off, ha, hj⟩ := hR hne
  exact ⟨b, off, ha, fun j x hx => keep _ _ (by have := h3 b off ha hne; show b ≤ g; omega) (hj j x hx)⟩
set_option maxRecDepth 100000 in
theorem Only.grown {g : Nat} {a b c : World} {row : Option Nat} (h : Only g a b) (hg : b.grownBy c row) (hr : ∀ k, row = some k → a.heap.size ≤ k) : Only g a c :=
  ⟨hg.os.trans h.os, hg.tape.trans h.tape, hg.output.trans h.output, Nat.le_trans h.size hg.size, fun i hi hne => (hg.block i (Nat.lt_of_lt_of_le hi h.size) (fun e => by have := hr i e.symm; omega)).trans (h.block i hi hne)⟩
set_option maxRecDepth 100000 in
theorem LstV.onlyF {w w' : World} {B g : Nat} {v : Value} {es : List (RowE × Int)} (h : LstV w B v es) (hw : Only g w w') (hv : v.ownBlock ≠ some g) (he : ∀ e ∈ es.map Prod.fst, (rowV e).ownBlock ≠ some g) : LstV w' B v es := by
  refine ⟨World.ownsRow.kept h.1 hw ?_, h.2.only hw he⟩
  cases hb : v.ownBlock with
  | none => exact .inl rfl
  | some k => exact .inr (by rw [← hb]; exact hv)
def zeroP : Nat → Value := fun o => (#[Value.int .i64 0, .slice none 0 0] : Array Value).getD o undef

set_option maxRecDepth 100000 in
set_option maxHeartbeats 4000000 in
theorem dprof_spec (w : World) (g m : Nat) (hC : Cur w g) (m1 : 1 ≤ m) (m5 : m ≤ 5) :
    Calls Tryz.prog 21 #[.pointer (some ⟨g, 0, none⟩), .int .i64 m] w fun e w' => ∃ v, e = .returned (.agg #[.int .i64 m, v]) ∧ ∃ es, LstV w' w.heap.size v es ∧ es.length ≤ 5 ∧ (∀ x ∈ es, rkOk m x.1.xs = true ∧ 1 ≤ x.2 ∧ x.2 ≤ 6) ∧ Cur w' g ∧ Only g w w' := by
  have HCu := hide hC
  have hgl := hC.lt
  clear hC
  have p0 := BlkF.new w #[.int .i64 0, .slice none 0 0] 26
  have hE1 := Ext.new w (.cells #[.int .i64 0, .slice none 0 0] 26)
  have hs1 : (w.alloc (.cells #[.int .i64 0, .slice none 0 0] 26)).heap.size = w.heap.size + 1 := by simp
  go_enter Tryz.func21, Tryz.ntmps21
  go_wp2_with fail
  generalize w.alloc (.cells #[.int .i64 0, .slice none 0 0] 26) = w1 at p0 hE1 hs1 ⊢
  have hB := (BlkF.new w1 #[.int .i64 m, .slice none 0 0] 26).congr (f' := boxF m (.slice none 0 0)) (fun o ho => by
    match o, ho with
    | 0, _ => rfl
    | 1, _ => rfl)
  have hE2 := Ext.new w1 (.cells #[.int .i64 m, .slice none 0 0] 26)
  rw [hs1] at hB
  have hlt := hB.lt
  generalize w1.alloc (.cells #[.int .i64 m, .slice none 0 0] 26) = W0 at hB hE2 hlt ⊢
  have hP := p0.ext hE2
  have hEW := hE1.trans hE2
  obtain ⟨H, hH⟩ : ∃ H : Nat, H = W0.heap.size := ⟨_, rfl⟩
  rw [← hH] at hlt
  have hHs : H ≤ W0.heap.size := by omega
  obtain ⟨b, hb⟩ : ∃ b : Nat, b = w.heap.size + 1 := ⟨_, rfl⟩
  rw [← hb] at hB hlt ⊢
  have hbw : w.heap.size < b := by omega
  clear hH hb hs1 p0 hE1 hE2
  refine (below_spec W0 g 6 (HCu.out.ext hEW) (by decide) (by decide)).mono ?_
  rintro e w2 ⟨x, rfl, hx, hC2, hO2⟩
  have hB2 := hO2.blk hB (by omega)
  have hP2 := hO2.blk hP (by omega)
  have hO := (Only.of_ext (g := g) hEW).trans hO2
  have hHs := Nat.le_trans hHs hO2.size
  clear hB hP hEW hO2
  go_wp2_with fail
  go_loopw [6, 7] (fun i _ wr => ∃ (k : Nat) (v : Value) (es : List (RowE × Int)), i = .int .i64 k ∧ k + es.length ≤ 5 ∧ Hid (BlkF wr b 2 (boxF m v)) ∧ Hid (BlkF wr w.heap.size 2 zeroP) ∧ Hid (LstV wr H v es) ∧ Hid (∀ x ∈ es, rkOk m x.1.xs = true ∧ 1 ≤ x.2 ∧ x.2 ≤ 6) ∧ Hid (Cur wr g) ∧ H ≤ wr.heap.size ∧ Only g w wr) (fun i _ _ => (intOf i).toNat)
  case atStart => exact ⟨x, _, [], rfl, by simp; omega, hB2, hP2, LstV.nil _ _, (fun x hx => by simp at hx), hC2, hHs, hO⟩
  case round =>
    clear hB2 hP2 hC2 hHs hO
    obtain ⟨k, v, es, rfl, hke, HB, HP, HL, HV, HC, hHs, hO⟩ := hrel
    by_cases hk0 : 0 < k
    · have hk1 : (0 : Int) < (k : Int) := by omega
      have HD := hide (draw_spec wr g m HC.out m1 m5)
      go_wp2_with fail
      refine HD.out.mono ?_
      rintro e w3 ⟨u, rfl, r, hu, hrk, hC3, hO3⟩
      obtain ⟨a5, n5, c5, rfl⟩ := hu.form
      have hB3 := hO3.blk HB.out (by omega)
      have hP3 := hO3.blk HP.out (by omega)
      have hL3 := HL.out.only (by omega) hO3
      have hfar : ∀ e ∈ es.map Prod.fst, ∀ q, (rowV e).ownBlock = some q → (rowV ⟨a5, n5, c5, r⟩).ownBlock ≠ some q := fun e he q hq hq2 => by
        have c1 := (HL.out.2.lt e he q hq).2
        have c2 := (World.ownsRow.lt hu q hq2).1
        omega
      have HF := hide hfar
      have b1 : w3.cell? ⟨b, 1, none⟩ = some v := hB3.cell 1 (by omega)
      have hu3 := hu.base hHs
      have hgw3 : g < wr.heap.size := HC.out.lt
      have HC3 := hide hC3
      have HB3 := hide hB3
      have HP3 := hide hP3
      have HL3 := hide hL3
      have HU3 := hide hu3
      have hHs3 := Nat.le_trans hHs hO3.size
      have hO4 := hO.trans hO3
      clear hfar hu hC3 hO3 hB3 hP3 hL3 hu3 HB HP HL HC HD hO
      go_wp2
      refine wp_region_K (H := b) (late := [0, 1]) (by kernel_rfl) (by kernel_rfl) ?_
      refine wpK_stepQL (.pointer (some ⟨b, 1, none⟩)) rfl (fun wq hwq => ?_) (fun K hK0 => ?_)
      · go_simp
        exact ⟨Ext.refl _, rfl⟩
      refine hK0 _ ?_
      clear hK0 K
      refine wpK_stepQL v rfl (fun wq hwq => ?_) (fun K hK0 => ?_)
      · have b1q := hwq.keep (p := ⟨b, 1, none⟩) rfl b1
        go_simp
        exact ⟨Ext.refl _, rfl⟩
      refine hK0 _ ?_
      clear hK0 K
      repeat' (refine wpK_stepQ rfl (fun K hK => ?_)
               go_simp
               try (rw [if_neg (by intro h; simp [undef] at h)])
               try split
               all_goals
                 first
                 | (refine hK _ ?_
                    clear hK K)
                 | (apply Exists.intro
                    refine ⟨fun wq hwq => ?_, hK _ ?_⟩
                    · have hcq := hwq.cellS
                      go_simp
                      first
                      | exact ⟨Ext.refl _, rfl⟩
                    clear hK K))
      refine wpK_stepC rfl (by kernel_rfl) (fun K hK' wq hwq => ?_)
      go_simp
      refine (below_spec wq g 6 (HC3.out.ext hwq) (by decide) (by decide)).mono ?_
      rintro e w4 ⟨y, rfl, hy, hC4, hO5⟩
      refine ⟨Sam.grown hO5 (by intro e; injection e with e; omega), hK' _ _ ?_⟩
      clear hK' K
      have hB4 := hO5.blk (HB3.out.ext hwq) (by omega)
      have hP4 := hO5.blk (HP3.out.ext hwq) (by omega)
      have hL4 := (HL3.out.ext hwq).only (by omega) hO5
      have hU4 := (HU3.out.ext hwq).only (by omega) hO5
      have hO6 := (hO4.trans (Only.of_ext hwq)).trans hO5
      have hHs4 := Nat.le_trans hHs3 (Nat.le_trans hwq.size hO5.size)
      have HB4 := hide hB4
      have HP4 := hide hP4
      have HL4 := hide hL4
      have HU4 := hide hU4
      have HC4 := hide hC4
      have hgw4 : g < w4.heap.size := hC4.lt
      have y1 : IntKind.i64.wrap (1 + (y : Int)) = 1 + (y : Int) := IntWalk.i64_in _ (by omega)
      clear hB4 hP4 hL4 hU4 hC4 hwq hO5 HB3 HP3 HL3 HU3 HC3 hO4 b1 hHs3
      repeat' (refine wpK_stepQ rfl (fun K hK => ?_)
               go_simp
               try (rw [if_neg (by intro h; simp [undef] at h)])
               try split
               all_goals
                 first
                 | (refine hK _ ?_
                    clear hK K)
                 | (apply Exists.intro
                    refine ⟨fun wq hwq => ?_, hK _ ?_⟩
                    · have hcq := hwq.cellS
                      go_simp
                      first
                      | exact ⟨Ext.refl _, rfl⟩
                    clear hK K))
      refine wpK_stepS rfl (by kernel_rfl) (fun K hK wq hwq => ?_)
      go_simp
      refine ⟨(by repeat (first | exact Ext.refl _ | assumption | refine Ext.alloc ?_ _ | refine Ext.drew ?_ | refine Ext.trans ?_ (by assumption))), hK _ _ ?_⟩
      clear hK K
      refine wpK_stepC rfl (by kernel_rfl) (fun K hK' wa hwa => ?_)
      refine Eq.mpr (if_pos rfl) ?_
      have hEa : Ext w4 wa := (hwq.alloc _).trans hwa
      have hLa := HL4.out.ext hEa
      have hro : ∀ q, v.ownBlock = some q → H ≤ q := fun q hq => (World.ownsRow.lt hLa.1 q hq).1
      refine oper_appVK (R := Sam b) H wa _ _ rfl v es (⟨a5, n5, c5, r⟩, 1 + (y : Int)) _ rfl hLa.1 (Nat.le_trans hHs4 hEa.size) rfl (hwa.keep (new0 wq _ _ _)) (hwa.keep (new1 wq _ _ _ _)) (by omega) ?_
      intro v' w5 hown5 hg5 hf5
      refine ⟨Sam.grown hg5 (fun e => by have := hro b e; omega), ?_⟩
      have hB5 := (HB4.out.ext hEa).grown hg5 (fun q hq => by have := hro q hq; omega)
      have hP5 := (HP4.out.ext hEa).grown hg5 (fun q hq => by have := hro q hq; omega)
      have hC5 := (HC4.out.ext hEa).grown hg5 (fun q hq => by have := hro q hq; omega)
      have hL5 := hLa.add (u := ⟨a5, n5, c5, r⟩) (k := 1 + (y : Int)) (HU4.out.ext hEa) HF.out hown5 hg5
      have hO7 := (hO6.trans (Only.of_ext hEa)).grown hg5 (fun q hq => by have := hro q hq; omega)
      have hHs5 := Nat.le_trans hHs4 (Nat.le_trans hEa.size hg5.size)
      have z1 := hB5.fr 1
      have d1 : w5.cell? ⟨b, 1, none⟩ = some v := hB5.cell 1 (by omega)
      obtain ⟨av, nv, cv, rfl⟩ : ∃ av nv cv, v' = .slice av nv cv := by
        rcases hL5.1.val with ⟨h, _⟩ | ⟨g9, c9, h, _⟩
        · exact ⟨_, _, _, h⟩
        · exact ⟨_, _, _, h⟩
      have HB5 := hide hB5
      have HP5 := hide hP5
      have HL5 := hide hL5
      have HC5 := hide hC5
      have HV5 : Hid (∀ x ∈ es ++ [((⟨a5, n5, c5, r⟩ : RowE), 1 + (y : Int))], rkOk m x.1.xs = true ∧ 1 ≤ x.2 ∧ x.2 ≤ 6) := fun x hx => by
        rcases List.mem_append.1 hx with hx | hx
        · exact HV.out x hx
        · simp only [List.mem_singleton] at hx
          subst hx
          exact ⟨hrk, by show 1 ≤ 1 + (y : Int); omega, by show 1 + (y : Int) ≤ 6; omega⟩
      clear hLa hro hown5 hg5 hf5 hB5 hP5 hC5 hL5 hEa hwa hwq HB4 HP4 HL4 HU4 HC4 hO6 hHs4 y1
      refine hK' _ _ ?_
      clear hK' K
      repeat' (refine wpK_stepQ rfl (fun K hK => ?_)
               go_simp
               try (rw [if_neg (by intro h; simp [undef] at h)])
               try split
               all_goals
                 first
                 | (refine hK _ ?_
                    clear hK K)
                 | (apply Exists.intro
                    refine ⟨fun wq hwq => ?_, hK _ ?_⟩
                    · have hcq := hwq.cellS
                      go_simp
                      first
                      | exact ⟨Ext.refl _, rfl⟩
                    clear hK K))
      refine wpK_stepL rfl (by kernel_rfl) (by kernel_rfl) (by kernel_rfl) (fun K hK wz hwz => ?_)
      have hcz := hwz.cellS
      have hfz := hwz.frozenS
      go_simp
      refine hK _ _ ?_
      clear hK K
      go_wp2
      have hOb : Only b wz (wz.setCell ⟨b, 1, none⟩ (.slice av nv cv)) := (Only.refl b wz).setCell 1 _
      refine ⟨⟨k - 1, .slice av nv cv, es ++ [(⟨a5, n5, c5, r⟩, 1 + (y : Int))], congrArg (Value.int .i64) (by omega), by rw [List.length_append]; simp; omega, hide ?_, hide (hOb.blk (HP5.out.ext hwz) (by omega)), hide ((HL5.out.ext hwz).only hlt hOb), HV5, hide ((HC5.out.ext hwz).only (by omega) hOb), ?_, ?_⟩, by simp [intOf]; omega⟩
      · refine ((HB5.out.ext hwz).set 1 (by omega) _).congr (fun o ho => ?_)
        match o, ho with
        | 0, _ => rfl
        | 1, _ => rfl
      · exact Nat.le_trans hHs5 (Nat.le_trans hwz.size hOb.size)
      · exact (hO7.trans (Only.of_ext hwz)).fresh (setCell_row wz b 1 _) (by omega)
    · have hk1 : ¬ (0 : Int) < (k : Int) := by omega
      have r0 : wr.cell? ⟨w.heap.size, 0, none⟩ = some (.int .i64 0) := HP.out.cell 0 (by omega)
      have r1 : wr.cell? ⟨w.heap.size, 1, none⟩ = some (.slice none 0 0) := HP.out.cell 1 (by omega)
      have z0 := HP.out.fr 0
      have z1 := HP.out.fr 1
      have b0 : wr.cell? ⟨b, 0, none⟩ = some (.int .i64 m) := HB.out.cell 0 (by omega)
      have b1 : wr.cell? ⟨b, 1, none⟩ = some v := HB.out.cell 1 (by omega)
      obtain ⟨av, nv, cv, rfl⟩ : ∃ av nv cv, v = .slice av nv cv := by
        rcases HL.out.1.val with ⟨h, _⟩ | ⟨g9, c9, h, _⟩
        · exact ⟨_, _, _, h⟩
        · exact ⟨_, _, _, h⟩
      go_wp2
      have hOw : Only w.heap.size wr ((wr.setCell ⟨w.heap.size, 0, none⟩ (.int .i64 m)).setCell ⟨w.heap.size, 1, none⟩ (.slice av nv cv)) := ((Only.refl _ wr).setCell 0 _).setCell 1 _
      refine bodyPost_ret (v := .agg #[.int .i64 m, .slice av nv cv]) (by simp [results, Tryz.results21, go_sem, r0, r1]) rfl ⟨_, rfl, es, (HL.out.only (by omega) hOw).base (by omega), by omega, fun p q hpq => HV.out (p, q) hpq, HC.out.only (by omega) hOw, (hO.fresh (setCell_row wr w.heap.size 0 (.int .i64 m)) (Nat.le_refl _)).fresh (setCell_row _ w.heap.size 1 (.slice av nv cv)) (Nat.le_refl _)⟩

/-- A profile that a code is: what is known of it. -/
def MkOk (m : Nat) (vs : List Vt) : Prop := profOk m vs = true ∧ 1 ≤ vs.length ∧ vs.length ≤ 5 ∧ ∀ x ∈ vs, x.2 ≤ 6
set_option maxRecDepth 100000 in
theorem vts_ok {m : Nat} (m1 : 1 ≤ m) (m5 : m ≤ 5) {es : List (RowE × Int)} (hl : es.length ≤ 5) (h1 : 1 ≤ es.length) (h : ∀ x ∈ es, rkOk m x.1.xs = true ∧ 1 ≤ x.2 ∧ x.2 ≤ 6) : MkOk m (vtsOf es) := by
  have hlen : (vtsOf es).length = es.length := List.length_map _
  refine ⟨?_, by omega, by omega, fun x hx => ?_⟩
  · simp only [profOk, Bool.and_eq_true, decide_eq_true_eq, List.all_eq_true]
    refine ⟨inR_iff.2 (by omega), by omega, fun x hx => ?_⟩
    obtain ⟨e, he, rfl⟩ := List.mem_map.1 hx
    have := h e he
    simp only [vtOk, Bool.and_eq_true]
    exact ⟨this.1, inR_iff.2 (by show 1 ≤ e.2 ∧ e.2 ≤ 1000; omega)⟩
  · obtain ⟨e, he, rfl⟩ := List.mem_map.1 hx
    exact (h e he).2.2

set_option maxRecDepth 100000 in
set_option maxHeartbeats 4000000 in
theorem mkprofC_spec (w : World) (a : Option Addr) (c n m : Nat) (bs : List Int) (hR : RdY w a bs) (hl : bs.length ≤ 1048576) (hn : n ≤ 1000) (m1 : 1 ≤ m) (m5 : m ≤ 5) :
    Calls Tryz.prog 5 #[.slice a bs.length c, .int .i64 n, .int .i64 m] w fun e w' => ∃ v, e = .returned (.agg #[.int .i64 m, v]) ∧ ∃ a' vs c', v = .slice a' vs.length c' ∧ RdV w' a' vs ∧ MkOk m vs ∧ Ext w w' ∧ vs.length ≤ c' := by
  have p0 := BlkF.new w #[.int .i64 0, .slice none 0 0] 26
  have hE1 := Ext.new w (.cells #[.int .i64 0, .slice none 0 0] 26)
  have i1 : (m : Int) ≤ 5 := by omega
  have i2 : (1 : Int) ≤ (m : Int) := by omega
  have t1 : min (m : Int) 5 = m := by omega
  have t2 : max 1 (m : Int) = m := by omega
  go_enter Tryz.func5, Tryz.ntmps5
  go_wp2_with fail
  refine (lnew_spec _ a c n bs (hR.ext hE1) hl hn).mono ?_
  rintro e w1 ⟨g, rfl, hg, hC, hw1⟩
  have P1 := hide (p0.ext hw1)
  have hE := hE1.trans hw1
  have HD1 : Hid (∀ z : Int, z = m → Calls Tryz.prog 21 #[.pointer (some ⟨g, 0, none⟩), .int .i64 z] w1 fun e w' => ∃ v, e = .returned (.agg #[.int .i64 m, v]) ∧ ∃ es, LstV w' w1.heap.size v es ∧ es.length ≤ 5 ∧ (∀ x ∈ es, rkOk m x.1.xs = true ∧ 1 ≤ x.2 ∧ x.2 ≤ 6) ∧ Cur w' g ∧ Only g w1 w') := fun z hz => by
    subst hz
    exact dprof_spec w1 g m hC m1 m5
  have HD2 : Hid (∀ (z : Int) (w' : World), z = m → Cur w' g → Calls Tryz.prog 22 #[.pointer (some ⟨g, 0, none⟩), .int .i64 z] w' fun e w'' => ∃ v, e = .returned v ∧ ∃ r, OwnI w'' w'.heap.size v r ∧ rkOk m r = true ∧ Cur w'' g ∧ Only g w' w'') := fun z w' hz hC' => by
    subst hz
    exact draw_spec w' g m hC' m1 m5
  have hgw : w.heap.size < g := by
    have h1 : (w.alloc (.cells #[.int .i64 0, .slice none 0 0] 26)).heap.size = w.heap.size + 1 := by simp
    omega
  have hg1 : g < w1.heap.size := hC.lt
  have hb1 : w.heap.size + 1 ≤ w1.heap.size := by
    have h1 : (w.alloc (.cells #[.int .i64 0, .slice none 0 0] 26)).heap.size = w.heap.size + 1 := by simp
    have h2 := hw1.size
    omega
  clear p0 hE1 hC hw1
  go_wp2_with fail
  all_goals
    refine (HD1.out _ (by omega)).mono ?_
    rintro e w2 ⟨v, rfl, es, hL, hel, hV, hC2, hO2⟩
    have hE2 : Ext w w2 := Only.ext hE hO2 (by omega)
    have P2 := hide (hO2.blk P1.out (by omega))
    obtain ⟨av, cv, rfl, hcv⟩ : ∃ av cv, v = .slice av es.length cv ∧ es.length ≤ cv := by
      rcases hL.1.val with ⟨h, h2⟩ | ⟨g9, c9, h, hc9, _⟩
      · rw [h2]; exact ⟨_, _, h, Nat.zero_le _⟩
      · exact ⟨_, _, h, hc9⟩
    have HCV := hide hcv
    clear hcv
    have HV := hide hV
    have hgl2 : g < w2.heap.size := hC2.lt
    have HL := hide hL
    have hws : w.heap.size ≤ w.heap.size := Nat.le_refl _
    have h12 := hO2.size
    clear hV hO2 hL
    have hB := (BlkF.new w2 #[.int .i64 m, .slice av es.length cv] 26).congr (f' := boxF m (.slice av es.length cv)) (fun o ho => by
      match o, ho with
      | 0, _ => rfl
      | 1, _ => rfl)
    have hEB := Ext.new w2 (.cells #[.int .i64 m, .slice av es.length cv] 26)
    have hEw := hE2.trans hEB
    have p3 := P2.out.ext hEB
    by_cases hes : es = []
    · subst hes
      have hl0 : (((List.length ([] : List (RowE × Int)) : Nat) : Int) == 0) = true := rfl
      have HB := hide hB
      have HP := hide p3
      have HL3 := hide (HL.out.ext hEB)
      have HC3 := hide (hC2.ext hEB)
      have hb3 := hB.lt
      have b1 : (w2.alloc (.cells #[.int .i64 m, .slice av ([] : List (RowE × Int)).length cv] 26)).cell? ⟨w2.heap.size, 1, none⟩ = some (.slice av ([] : List (RowE × Int)).length cv) := hB.cell 1 (by simp)
      have hws2 : w.heap.size < w2.heap.size := by omega
      obtain ⟨b, hb⟩ : ∃ b : Nat, b = w2.heap.size := ⟨_, rfl⟩
      rw [← hb] at HB b1 hb3 hws2 hgl2 h12
      go_wp2_with fail
      rw [← hb]
      generalize w2.alloc (.cells #[.int .i64 m, .slice av ([] : List (RowE × Int)).length cv] 26) = w3 at HB HP HL3 HC3 b1 hb3 hEw ⊢
      have HVB : Hid (∀ q, (Value.slice av ([] : List (RowE × Int)).length cv).ownBlock = some q → w1.heap.size ≤ q ∧ q < b) := fun q hq => by
        have h1 := World.ownsRow.lt HL.out.1 q hq
        rw [hb]
        exact h1
      clear hb hB p3 hEB HL hel P2 hC2 hl0
      refine wp_region_K (H := b) (late := [0, 1]) (by kernel_rfl) (by kernel_rfl) ?_
      refine wpK_stepQL (.pointer (some ⟨b, 1, none⟩)) rfl (fun wq hwq => ?_) (fun K hK0 => ?_)
      · go_simp
        exact ⟨Ext.refl _, rfl⟩
      refine hK0 _ ?_
      clear hK0 K
      refine wpK_stepQL (.slice av 0 cv) rfl (fun wq hwq => ?_) (fun K hK0 => ?_)
      · have b1q := hwq.keep (p := ⟨b, 1, none⟩) rfl b1
        go_simp
        exact ⟨Ext.refl _, rfl⟩
      refine hK0 _ ?_
      clear hK0 K
      repeat' (refine wpK_stepQ rfl (fun K hK => ?_)
               go_simp
               try (rw [if_neg (by intro h; simp [undef] at h)])
               try split
               all_goals
                 first
                 | (refine hK _ ?_
                    clear hK K)
                 | (apply Exists.intro
                    refine ⟨fun wq hwq => ?_, hK _ ?_⟩
                    · have hcq := hwq.cellS
                      go_simp
                      first
                      | exact ⟨Ext.refl _, rfl⟩
                    clear hK K))
      refine wpK_stepC rfl (by kernel_rfl) (fun K hK' wq hwq => ?_)
      go_simp
      refine (HD2.out _ wq (by omega) (HC3.out.ext hwq)).mono ?_
      rintro e w4 ⟨u, rfl, r, hu, hrk, hC4, hO5⟩
      refine ⟨Sam.grown hO5 (by intro e; injection e with e; omega), hK' _ _ ?_⟩
      clear hK' K
      obtain ⟨a5, n5, c5, rfl⟩ := hu.form
      have hB4 := hO5.blk (HB.out.ext hwq) (by omega)
      have hP4 := hO5.blk (HP.out.ext hwq) (by omega)
      have hL4 := (HL3.out.ext hwq).only hg1 hO5
      have hEq := hEw.trans hwq
      have h1q : w1.heap.size ≤ wq.heap.size := by have := hwq.size; omega
      have hU4 := hu.base h1q
      have hbq : b < wq.heap.size := by have := hwq.size; omega
      have HUB : Hid ((Value.slice a5 n5 c5).ownBlock ≠ some b) := hide (fun e => by have := (World.ownsRow.lt hu b e).1; omega)
      have hE4 := Only.ext hEq hO5 (by omega)
      have h14 := Nat.le_trans h1q hO5.size
      have hB4b := hB4.lt
      have HB4 := hide hB4
      have HP4 := hide hP4
      have HL4 := hide hL4
      have HU4 := hide hU4
      clear hB4 hP4 hL4 hU4 hC4 hwq hO5 HB HP HL3 HC3 b1 hu hEq h1q hEw
      repeat' (refine wpK_stepQ rfl (fun K hK => ?_)
               go_simp
               try (rw [if_neg (by intro h; simp [undef] at h)])
               try split
               all_goals
                 first
                 | (refine hK _ ?_
                    clear hK K)
                 | (apply Exists.intro
                    refine ⟨fun wq hwq => ?_, hK _ ?_⟩
                    · have hcq := hwq.cellS
                      go_simp
                      first
                      | exact ⟨Ext.refl _, rfl⟩
                    clear hK K))
      refine wpK_stepS rfl (by kernel_rfl) (fun K hK wq hwq => ?_)
      go_simp
      refine ⟨(by repeat (first | exact Ext.refl _ | assumption | refine Ext.alloc ?_ _ | refine Ext.drew ?_ | refine Ext.trans ?_ (by assumption))), hK _ _ ?_⟩
      clear hK K
      refine wpK_stepC rfl (by kernel_rfl) (fun K hK' wa hwa => ?_)
      refine Eq.mpr (if_pos rfl) ?_
      have hEa : Ext w4 wa := (hwq.alloc _).trans hwa
      have hLa := HL4.out.ext hEa
      refine oper_appVK (R := Sam b) w1.heap.size wa _ _ rfl (.slice av ([] : List (RowE × Int)).length cv) [] (⟨a5, n5, c5, r⟩, 1) _ rfl hLa.1 (Nat.le_trans h14 hEa.size) rfl (hwa.keep (new0 wq _ _ _)) (hwa.keep (new1 wq _ _ _ _)) (by simp) ?_
      intro v' w5 hown5 hg5 hf5
      refine ⟨Sam.grown hg5 (fun e => by have := HVB.out b e; omega), ?_⟩
      have hB5 := (HB4.out.ext hEa).grown hg5 (fun q hq => by have := HVB.out q hq; omega)
      have hP5 := (HP4.out.ext hEa).grown hg5 (fun q hq => by have := HVB.out q hq; omega)
      have hL5 := hLa.add (u := ⟨a5, n5, c5, r⟩) (k := 1) (HU4.out.ext hEa) (fun e he => by simp at he) hown5 hg5
      have hE5 : Ext w w5 := Ext.grown (hE4.trans hEa) hg5 (fun q hq => by have := HVB.out q hq; omega)
      have z1 := hB5.fr 1
      have d1 : w5.cell? ⟨b, 1, none⟩ = some (.slice av ([] : List (RowE × Int)).length cv) := hB5.cell 1 (by simp)
      have HNB : Hid (v'.ownBlock ≠ some b) := hide (by
        rcases hf5 with h | h
        · rw [h]; exact fun e => by have := HVB.out b e; omega
        · exact fun e => by
            have h1 := h b e
            have h2 := hB4b
            have h3 := hEa.size
            omega)
      obtain ⟨a7, c7, rfl, hc7⟩ : ∃ a7 c7, v' = .slice a7 1 c7 ∧ 1 ≤ c7 := by
        rcases hL5.1.val with ⟨h, h2⟩ | ⟨g9, c9, h, hc9, _⟩
        · simp at h2
        · exact ⟨_, _, h, by simpa using hc9⟩
      have HC7 := hide hc7
      clear hc7
      have HB5 := hide hB5
      have HP5 := hide hP5
      have HL5 := hide hL5
      clear hLa hown5 hg5 hf5 hB5 hP5 hL5 hEa hwa hwq HB4 HP4 HL4 HU4 hE4
      refine hK' _ _ ?_
      clear hK' K
      repeat' (refine wpK_stepQ rfl (fun K hK => ?_)
               go_simp
               try (rw [if_neg (by intro h; simp [undef] at h)])
               try split
               all_goals
                 first
                 | (refine hK _ ?_
                    clear hK K)
                 | (apply Exists.intro
                    refine ⟨fun wq hwq => ?_, hK _ ?_⟩
                    · have hcq := hwq.cellS
                      go_simp
                      first
                      | exact ⟨Ext.refl _, rfl⟩
                    clear hK K))
      refine wpK_stepL rfl (by kernel_rfl) (by kernel_rfl) (by kernel_rfl) (fun K hK wz hwz => ?_)
      have hcz := hwz.cellS
      have hfz := hwz.frozenS
      go_simp
      refine hK _ _ ?_
      clear hK K
      have hOb : Only b wz (wz.setCell ⟨b, 1, none⟩ (.slice a7 1 c7)) := (Only.refl b wz).setCell 1 _
      have hB7 := (HB5.out.ext hwz).set 1 (by simp) (.slice a7 1 c7)
      have hP7 := hOb.blk (HP5.out.ext hwz) (by omega)
      have hL7 := (HL5.out.ext hwz).onlyF hOb HNB.out (fun e he => by
        simp only [List.nil_append, List.map_cons, List.map_nil, List.mem_singleton] at he
        subst he
        exact HUB.out)
      have hE7 := Only.ext (hE5.trans hwz) hOb (by omega)
      have z1 := hB7.fr 1
      generalize wz.setCell ⟨b, 1, none⟩ (.slice a7 1 c7) = W at hB7 hP7 hL7 hE7 ⊢
      have b0 : W.cell? ⟨b, 0, none⟩ = some (.int .i64 m) := hB7.cell 0 (by simp)
      have b1 : W.cell? ⟨b, 1, none⟩ = some (.slice a7 1 c7) := hB7.cell 1 (by simp)
      have r0 : W.cell? ⟨w.heap.size, 0, none⟩ = some (.int .i64 0) := hP7.cell 0 (by simp)
      have r1 : W.cell? ⟨w.heap.size, 1, none⟩ = some (.slice none 0 0) := hP7.cell 1 (by simp)
      have z2 := hP7.fr 0
      have z3 := hP7.fr 1
      have hOw : Only w.heap.size W ((W.setCell ⟨w.heap.size, 0, none⟩ (.int .i64 m)).setCell ⟨w.heap.size, 1, none⟩ (.slice a7 1 c7)) := ((Only.refl _ _).setCell 0 _).setCell 1 _
      have hLf := hL7.only (by omega) hOw
      have hrd := RowsV.rd hLf.1 hLf.2
      have hMK : MkOk m (vtsOf ([] ++ [((⟨a5, n5, c5, r⟩ : RowE), (1 : Int))])) := vts_ok m1 m5 (by simp) (by simp) (fun x hx => by
        simp only [List.nil_append, List.mem_singleton] at hx
        subst hx
        exact ⟨hrk, by show (1 : Int) ≤ 1; omega, by show (1 : Int) ≤ 6; omega⟩)
      have HRD := hide (And.intro hrd (And.intro hMK (Only.ext hE7 hOw (Nat.le_refl _))))
      clear hLf hrd hMK hOw hE7 hL7 hP7 hB7 HL5 HB5 HP5
      go_wp2
      exact bodyPost_ret (v := .agg #[.int .i64 m, .slice a7 1 c7]) (by simp [results, Tryz.results5, go_sem, r0, r1]) rfl ⟨_, rfl, a7, _, c7, rfl, HRD.out.1, HRD.out.2.1, HRD.out.2.2, HC7.out⟩
    · have hlen : 1 ≤ es.length := List.length_pos_iff.2 hes
      have hl0 : ((es.length : Int) == 0) = false := by rw [beq_eq_false_iff_ne]; omega
      have r0 : (w2.alloc (.cells #[.int .i64 m, .slice av es.length cv] 26)).cell? ⟨w.heap.size, 0, none⟩ = some (.int .i64 0) := p3.cell 0 (by simp)
      have r1 : (w2.alloc (.cells #[.int .i64 m, .slice av es.length cv] 26)).cell? ⟨w.heap.size, 1, none⟩ = some (.slice none 0 0) := p3.cell 1 (by simp)
      have z0 := p3.fr 0
      have z1 := p3.fr 1
      have hLw := HL.out.ext hEB
      have hMK := vts_ok m1 m5 hel hlen HV.out
      have hvl : (vtsOf es).length = es.length := List.length_map _
      have hOw : Only w.heap.size (w2.alloc (.cells #[.int .i64 m, .slice av es.length cv] 26)) (((w2.alloc (.cells #[.int .i64 m, .slice av es.length cv] 26)).setCell ⟨w.heap.size, 0, none⟩ (.int .i64 m)).setCell ⟨w.heap.size, 1, none⟩ (.slice av es.length cv)) := ((Only.refl _ _).setCell 0 _).setCell 1 _
      have hLf := hLw.only (by omega) hOw
      have hrd := RowsV.rd hLf.1 hLf.2
      have HRD := hide (And.intro hrd (And.intro hMK (Only.ext hEw hOw (Nat.le_refl _))))
      have HVL := hide hvl
      clear hes hLw hMK hvl hrd hB hOw hLf
      go_wp2_with fail
      exact bodyPost_ret (v := .agg #[.int .i64 m, .slice av es.length cv]) (by simp [results, Tryz.results5, go_sem, r0, r1]) rfl ⟨_, rfl, av, vtsOf es, cv, by rw [HVL.out], HRD.out.1, HRD.out.2.1, HRD.out.2.2, by rw [HVL.out]; exact HCV.out⟩

set_option maxRecDepth 100000 in
theorem mkprof_spec (w : World) (a : Option Addr) (c n m : Nat) (bs : List Int) (hR : RdY w a bs) (hl : bs.length ≤ 1048576) (hn : n ≤ 1000) (m1 : 1 ≤ m) (m5 : m ≤ 5) :
    Calls Tryz.prog 5 #[.slice a bs.length c, .int .i64 n, .int .i64 m] w fun e w' => ∃ v, e = .returned (.agg #[.int .i64 m, v]) ∧ ∃ a' vs c', v = .slice a' vs.length c' ∧ RdV w' a' vs ∧ MkOk m vs ∧ Ext w w' :=
  (mkprofC_spec w a c n m bs hR hl hn m1 m5).mono fun _ _ ⟨v, h1, a', vs, c', h2, h3, h4, h5, _⟩ => ⟨v, h1, a', vs, c', h2, h3, h4, h5⟩

def p0 (x : List Int) : Int := x.getD 0 0
def p1 (x : List Int) : Int := x.getD 1 0
/-- Kept pairs lead from a to b. -/
inductive ReachL (kept : List (List Int)) : Int → Int → Prop
  | refl (a : Int) : ReachL kept a a
  | step {b : Int} (x : List Int) (hx : x ∈ kept) (h : ReachL kept (p1 x) b) : ReachL kept (p0 x) b
set_option maxRecDepth 100000 in
theorem ReachL.snoc {kept : List (List Int)} {a b : Int} (h : ReachL kept a b) : ∀ {x : List Int}, x ∈ kept → p0 x = b → ReachL kept a (p1 x) := by
  induction h with
  | refl a => intro x hx e; exact e ▸ ReachL.step x hx (ReachL.refl _)
  | step y hy _ ih => intro x hx e; exact ReachL.step y hy (ih hx e)
set_option maxRecDepth 100000 in
theorem ReachL.mono {kept kept' : List (List Int)} (hk : ∀ x ∈ kept, x ∈ kept') {a b : Int} (h : ReachL kept a b) : ReachL kept' a b := by
  induction h with
  | refl a => exact ReachL.refl a
  | step y hy _ ih => exact ReachL.step y (hk y hy) ih
noncomputable def wayB (kept : List (List Int)) (a b : Int) : Bool := @decide (ReachL kept a b) (Classical.propDecidable _)
set_option maxRecDepth 100000 in
theorem wayB_iff {kept : List (List Int)} {a b : Int} : wayB kept a b = true ↔ ReachL kept a b := by
  unfold wayB; exact @decide_eq_true_iff _ (Classical.propDecidable _)
set_option maxRecDepth 100000 in
theorem wayB_no {kept : List (List Int)} {a b : Int} : wayB kept a b = false ↔ ¬ ReachL kept a b := by
  rw [← wayB_iff]; simp
set_option maxRecDepth 100000 in
theorem wayB_self (kept : List (List Int)) (a : Int) : wayB kept a a = true := wayB_iff.2 (ReachL.refl a)
set_option maxRecDepth 100000 in
/-- One step of the way, taken or not. -/
theorem wayB_step {kept : List (List Int)} {a b : Int} (hne : a ≠ b) : wayB kept a b = kept.any (fun x => decide (p0 x = a) && wayB kept (p1 x) b) := by
  rw [Bool.eq_iff_iff, wayB_iff, List.any_eq_true]
  constructor
  · intro h
    cases h with
    | refl => exact absurd rfl hne
    | step x hx h => exact ⟨x, hx, by simp [wayB_iff.2 h]⟩
  · rintro ⟨x, hx, h⟩
    simp only [Bool.and_eq_true, decide_eq_true_eq] at h
    have := ReachL.step x hx (wayB_iff.1 h.2)
    rw [h.1] at this
    exact this
set_option maxRecDepth 100000 in
/-- A set with a that no kept pair leaves holds all that can be reached. -/
theorem reach_in {kept : List (List Int)} {seen : List Int} (hc : ∀ x ∈ kept, p0 x ∈ seen → p1 x ∈ seen) {a b : Int} (h : ReachL kept a b) : a ∈ seen → b ∈ seen := by
  induction h with
  | refl a => exact id
  | step y hy _ ih => exact fun ha => ih (hc y hy ha)

/-- A number for each candidate that falls along each pair. -/
def Ranked (kept : List (List Int)) : Prop := ∃ r : Int → Nat, ∀ x ∈ kept, r (p1 x) < r (p0 x)
set_option maxRecDepth 100000 in
theorem Ranked.nil : Ranked [] := ⟨fun _ => 0, fun x h => by simp at h⟩
set_option maxRecDepth 100000 in
theorem Ranked.add {kept : List (List Int)} (h : Ranked kept) {x : List Int} (hx : wayB kept (p1 x) (p0 x) = false) : Ranked (kept ++ [x]) := by
  obtain ⟨r, hr⟩ := h
  refine ⟨fun y => r y + if wayB kept y (p0 x) = true then r (p1 x) + 1 else 0, fun y hy => ?_⟩
  rcases List.mem_append.1 hy with hy | hy
  · have h1 := hr y hy
    show r (p1 y) + (if wayB kept (p1 y) (p0 x) = true then r (p1 x) + 1 else 0) < r (p0 y) + (if wayB kept (p0 y) (p0 x) = true then r (p1 x) + 1 else 0)
    by_cases h2 : wayB kept (p1 y) (p0 x) = true
    · rw [if_pos h2, if_pos (wayB_iff.2 (ReachL.step y hy (wayB_iff.1 h2)))]; omega
    · rw [if_neg h2]; split <;> omega
  · simp at hy
    subst hy
    show r (p1 y) + (if wayB kept (p1 y) (p0 y) = true then r (p1 y) + 1 else 0) < r (p0 y) + (if wayB kept (p0 y) (p0 y) = true then r (p1 y) + 1 else 0)
    rw [if_neg (by rw [hx]; decide), if_pos (wayB_self _ _)]; omega

noncomputable def lockS (out : List (List Int)) (x : List Int) : List (List Int) := if wayB out (p1 x) (p0 x) = true then out else out ++ [x]
noncomputable def lockL (xss : List (List Int)) : List (List Int) := xss.foldl lockS []
set_option maxRecDepth 100000 in
theorem lockL_at {xss : List (List Int)} {k : Nat} {x : List Int} (h : xss[k]? = some x) : lockL (xss.take (k + 1)) = lockS (lockL (xss.take k)) x := by
  rw [take_at h]; simp [lockL]
set_option maxRecDepth 100000 in
theorem lockL_ranked (xss : List (List Int)) : ∀ k, k ≤ xss.length → Ranked (lockL (xss.take k))
  | 0, _ => Ranked.nil
  | k + 1, hk => by
    obtain ⟨x, hx⟩ := at_of_lt (xs := xss) (k := k) (by omega)
    have ih := lockL_ranked xss k (by omega)
    rw [lockL_at hx]
    unfold lockS
    by_cases h : wayB (lockL (xss.take k)) (p1 x) (p0 x) = true
    · rw [if_pos h]; exact ih
    · rw [if_neg h]; exact ih.add (by simpa using h)
set_option maxRecDepth 100000 in
theorem lockL_mem (xss : List (List Int)) : ∀ k, k ≤ xss.length → ∀ y ∈ lockL (xss.take k), y ∈ xss
  | 0, _, y, h => by simp [lockL] at h
  | k + 1, hk, y, h => by
    obtain ⟨x, hx⟩ := at_of_lt (xs := xss) (k := k) (by omega)
    have ih := lockL_mem xss k (by omega)
    rw [lockL_at hx] at h
    unfold lockS at h
    split at h
    · exact ih y h
    · rcases List.mem_append.1 h with h | h
      · exact ih y h
      · simp at h; subst h; exact List.mem_of_getElem? hx
set_option maxRecDepth 100000 in
theorem lockL_len (xss : List (List Int)) : ∀ k, k ≤ xss.length → (lockL (xss.take k)).length ≤ k
  | 0, _ => by simp [lockL]
  | k + 1, hk => by
    obtain ⟨x, hx⟩ := at_of_lt (xs := xss) (k := k) (by omega)
    have ih := lockL_len xss k (by omega)
    rw [lockL_at hx]
    unfold lockS
    split
    · omega
    · rw [List.length_append]; simp; omega

/-- No pair leads to a from one that is left. -/
def freeB (kept : List (List Int)) (left : List Int) (a : Int) : Bool := !kept.any (fun x => (p1 x == a) && hasI left (p0 x))
def nextQ (kept : List (List Int)) (n : Nat) (out : List Int) (i : Nat) : Bool := notIn out i && freeB kept (leftL n out) i
def nextV (kept : List (List Int)) (n : Nat) (out : List Int) : Int := match (List.range n).find? (nextQ kept n out) with | some i => (i : Int) | none => 0
def prL (kept : List (List Int)) (n : Nat) : Nat → List Int
  | 0 => []
  | k + 1 => prL kept n k ++ [nextV kept n (prL kept n k)]
set_option maxRecDepth 100000 in
theorem prL_len (kept : List (List Int)) (n : Nat) : ∀ k, (prL kept n k).length = k
  | 0 => rfl
  | k + 1 => by rw [prL, List.length_append, prL_len kept n k]; rfl
set_option maxRecDepth 100000 in
theorem max_rank (r : Int → Nat) : ∀ {xs : List Int}, xs ≠ [] → ∃ y ∈ xs, ∀ z ∈ xs, r z ≤ r y
  | [], h => absurd rfl h
  | [x], _ => ⟨x, by simp, fun z hz => by simp at hz; subst hz; exact Nat.le_refl _⟩
  | x :: y :: ys, _ => by
    obtain ⟨m, hm, hr⟩ := max_rank r (xs := y :: ys) (by simp)
    by_cases h : r m ≤ r x
    · refine ⟨x, by simp, fun z hz => ?_⟩
      rcases List.mem_cons.1 hz with rfl | hz
      · exact Nat.le_refl _
      · exact Nat.le_trans (hr z hz) h
    · refine ⟨m, List.mem_cons_of_mem _ hm, fun z hz => ?_⟩
      rcases List.mem_cons.1 hz with rfl | hz
      · omega
      · exact hr z hz
set_option maxRecDepth 100000 in
theorem next_some {kept : List (List Int)} {n : Nat} {out : List Int} (hr : Ranked kept) (hne : leftL n out ≠ []) :
    ∃ i : Nat, i < n ∧ nextQ kept n out i = true ∧ (∀ j, j < i → nextQ kept n out j = false) ∧ nextV kept n out = i := by
  obtain ⟨r, hr⟩ := hr
  obtain ⟨a, ha, hmax⟩ := max_rank r hne
  obtain ⟨i, hi, hno, rfl⟩ := leftL_mem.1 ha
  have hq : nextQ kept n out i = true := by
    unfold nextQ
    have h1 : notIn out i = true := by
      unfold notIn
      cases h : hasI out (i : Int)
      · rfl
      · exact absurd (hasI_iff.1 h) hno
    have h2 : freeB kept (leftL n out) i = true := by
      unfold freeB
      cases h : kept.any (fun x => (p1 x == (i : Int)) && hasI (leftL n out) (p0 x))
      · rfl
      · obtain ⟨x, hx, h⟩ := List.any_eq_true.1 h
        simp only [Bool.and_eq_true, beq_iff_eq] at h
        have h3 := hr x hx
        have h4 := hmax _ (hasI_iff.1 h.2)
        rw [h.1] at h3
        omega
    rw [h1, h2]; rfl
  cases hf : (List.range n).find? (nextQ kept n out) with
  | none =>
    rw [List.find?_eq_none] at hf
    exact absurd hq (hf i (List.mem_range.2 hi))
  | some k =>
    have hv : nextV kept n out = k := by unfold nextV; rw [hf]
    rw [List.find?_range_eq_some] at hf
    exact ⟨k, List.mem_range.1 hf.2.1, hf.1, fun j hj => by simpa using hf.2.2 j hj, hv⟩
set_option maxRecDepth 100000 in
theorem next_at {kept : List (List Int)} {n : Nat} {out : List Int} {i : Nat} (hi : i < n) (hq : nextQ kept n out i = true) (hno : ∀ j, j < i → nextQ kept n out j = false) : nextV kept n out = i := by
  have : (List.range n).find? (nextQ kept n out) = some i := by
    rw [List.find?_range_eq_some]
    exact ⟨hq, List.mem_range.2 hi, fun j hj => by simp [hno j hj]⟩
  unfold nextV; rw [this]
set_option maxRecDepth 100000 in
/-- Where the next one stands among those that are left. -/
theorem next_left {kept : List (List Int)} {n : Nat} {out : List Int} (hr : Ranked kept) (hne : leftL n out ≠ []) :
    ∃ k : Nat, findI (freeB kept (leftL n out)) (leftL n out) = k ∧ (leftL n out)[k]? = some (nextV kept n out) := by
  obtain ⟨i, hi, hq, hno, hv⟩ := next_some hr hne
  have hq' := hq
  unfold nextQ at hq'
  rw [Bool.and_eq_true] at hq'
  have hm : (i : Int) ∈ leftL n out := leftL_mem.2 ⟨i, hi, (fun h => by
    have h1 := hasI_iff.2 h
    have h2 := hq'.1
    unfold notIn at h2
    rw [h1] at h2; cases h2), rfl⟩
  have hs : leftL n out = leftL i out ++ (leftL n out).drop (leftL i out).length := by
    have key : ∀ d, leftL (i + d) out = leftL i out ++ (leftL (i + d) out).drop (leftL i out).length := by
      intro d
      induction d with
      | zero => simp
      | succ d ih =>
        have e : leftL (i + (d + 1)) out = leftL (i + d) out ++ if notIn out (i + d) then [((i + d : Nat) : Int)] else [] := upL_succ (i + d) (notIn out)
        rw [e]
        rw [ih]
        simp [List.append_assoc]
    have := key (n - i)
    rwa [show i + (n - i) = n by omega] at this
  have hat : (leftL n out)[(leftL i out).length]? = some (i : Int) := by
    have h1 : ∀ d, 1 ≤ d → (leftL (i + d) out)[(leftL i out).length]? = some (i : Int) := by
      intro d
      induction d with
      | zero => intro h; omega
      | succ d ih =>
        intro _
        have e : leftL (i + (d + 1)) out = leftL (i + d) out ++ if notIn out (i + d) then [((i + d : Nat) : Int)] else [] := upL_succ (i + d) (notIn out)
        rw [e]
        by_cases hd : d = 0
        · subst hd
          rw [Nat.add_zero, hq'.1, List.getElem?_append_right (Nat.le_refl _)]
          simp
        · have h2 := ih (by omega)
          rw [List.getElem?_append_left (lt_of_at h2)]
          exact h2
    have := h1 (n - i) (by omega)
    rwa [show i + (n - i) = n by omega] at this
  refine ⟨(leftL i out).length, ?_, by rw [hv]; exact hat⟩
  refine findI_some hat ?_ hq'.2
  rw [List.all_eq_true]
  intro y hy
  rw [hs, List.take_left'] at hy
  · obtain ⟨j, hj, hjo, rfl⟩ := leftL_mem.1 hy
    have h1 := hno j hj
    unfold nextQ at h1
    have h2 : notIn out j = true := by
      unfold notIn
      cases h : hasI out (j : Int)
      · rfl
      · exact absurd (hasI_iff.1 h) hjo
    rw [h2, Bool.true_and] at h1
    rw [h1]; rfl
  · rfl
set_option maxRecDepth 100000 in
/-- One that is left has been taken out. -/
theorem leftL_prL {kept : List (List Int)} {n : Nat} (hr : Ranked kept) : ∀ k, k ≤ n → (leftL n (prL kept n k)).length = n - k
  | 0, _ => by rw [prL, leftL_nil, upL_true_len]; rfl
  | k + 1, hk => by
    have ih := leftL_prL (n := n) hr k (by omega)
    have hne : leftL n (prL kept n k) ≠ [] := fun e => by rw [e] at ih; simp at ih; omega
    obtain ⟨i, _, hi⟩ := next_left hr hne
    have hlt := lt_of_at hi
    rw [prL, ← leftL_erase hi, List.length_eraseIdx, if_pos hlt, ih]
    omega

set_option maxRecDepth 100000 in
theorem flatMap_same {α β : Type} {f g : α → List β} : ∀ {l : List α}, (∀ x ∈ l, f x = g x) → l.flatMap f = l.flatMap g
  | [], _ => rfl
  | x :: l, h => by
    rw [List.flatMap_cons, List.flatMap_cons, h x (by simp), flatMap_same (fun y hy => h y (by simp [hy]))]
set_option maxRecDepth 100000 in
theorem flatMap_range {β : Type} (f : Int → List β) : ∀ s : List Int, s.flatMap f = (List.range s.length).flatMap (fun i => f (s.getD i 0))
  | [] => rfl
  | x :: s => by
    rw [List.flatMap_cons, flatMap_range f s, List.length_cons, List.range_succ_eq_map, List.flatMap_cons, List.flatMap_map]
    rfl

/-- The orders that begin with `pre`, k more candidates to come, as the spec draws them. -/
def allS (n : Nat) : Nat → List Int → List (List Int)
  | 0, pre => [pre]
  | k + 1, pre => (leftL n pre).flatMap (fun x => allS n k (pre ++ [x]))

/-- The orders of s (of length k) as the implementation draws them. -/
def ordL : Nat → List Int → List (List Int)
  | 0, _ => [[]]
  | k + 1, s => (List.range s.length).flatMap (fun i => (ordL k (s.eraseIdx i)).map (fun r => s.getD i 0 :: r))

set_option maxRecDepth 100000 in
theorem all_ord (n : Nat) : ∀ (k : Nat) (pre : List Int), allS n k pre = (ordL k (leftL n pre)).map (fun r => pre ++ r)
  | 0, pre => by simp [allS, ordL]
  | k + 1, pre => by
    unfold allS ordL
    rw [flatMap_range, List.map_flatMap]
    refine flatMap_same (fun i hi => ?_)
    have hi := List.mem_range.1 hi
    have hg : (leftL n pre)[i]? = some ((leftL n pre).getD i 0) := by
      rw [List.getD_eq_getElem?_getD, List.getElem?_eq_getElem hi]; rfl
    rw [all_ord n k, ← leftL_erase hg, List.map_map]
    refine List.map_congr_left (fun r _ => ?_)
    simp

set_option maxRecDepth 100000 in
theorem ordL_len (k : Nat) : ∀ (s : List Int), s.length = k → ∀ r ∈ ordL k s, r.length = k := by
  induction k with
  | zero => intro s _ r hr; simp [ordL] at hr; simp [hr]
  | succ k ih =>
    intro s hs r hr
    unfold ordL at hr
    obtain ⟨i, hi, hr⟩ := List.mem_flatMap.1 hr
    obtain ⟨t, ht, rfl⟩ := List.mem_map.1 hr
    have hi := List.mem_range.1 hi
    rw [List.length_cons, ih (s.eraseIdx i) (by rw [List.length_eraseIdx_of_lt hi]; omega) t ht]

/-- All rankings of n candidates. -/
def allO (n : Nat) : List (List Int) := allS n n []
set_option maxRecDepth 100000 in
theorem all_eq (n : Nat) : allO n = ordL n (leftL n []) := by
  unfold allO; rw [all_ord]; simp

end Go.Proofs.YtfmeklgdaabooaaGreatDoor
