/- Lists of integers that a call makes: owned, appended to; compared, marked and held by the statements' helpers. -/
import Derived.Test.YtdkkmhncdlaphaaLawA
namespace Go.Proofs.Ytdkkmhncdlaphaa
open Go.RowKit

theorem info_int : (Try.prog.info? 3).map (fun i => (i.zero, i.size, i.bytes)) = some (some (.int .i64 0), 1, 8) := by kernel_rfl

/-- v is a list of integers of the call's own, in a block from B on. -/
def OwnI (w : World) (B : Nat) (v : Value) (xs : List Int) : Prop := w.ownsRow B 3 1 v xs.length (xs.map (Value.int .i64))
theorem OwnI.nil (w : World) (B : Nat) : OwnI w B (.slice none 0 0) [] := World.ownsRow_nil _ _ _ _
theorem ownsRow_ext {w w' : World} {B : Nat} {e : TypeId} {size : Nat} {v : Value} {n : Nat} {xs : List Value} (h : w.ownsRow B e size v n xs) (hw : Ext w w') : w'.ownsRow B e size v n xs := by
  obtain ⟨h1, h2⟩ := h
  refine ⟨h1, ?_⟩
  rcases h2 with h2 | ⟨g, cap, cur, hv, hg, hh, r⟩
  · exact .inl h2
  · refine .inr ⟨g, cap, cur, hv, hg, ?_, r⟩
    have hlt : g < w.heap.size := by
      rcases Nat.lt_or_ge g w.heap.size with hlt | hge
      · exact hlt
      · rw [Array.getElem?_eq_none hge] at hh; cases hh
    rw [Below.block hw g hlt]; exact hh
theorem OwnI.ext {w w' : World} {B : Nat} {v : Value} {xs : List Int} (h : OwnI w B v xs) (hw : Ext w w') : OwnI w' B v xs := ownsRow_ext h hw
theorem ownsRow_base {w : World} {B B' : Nat} {e : TypeId} {size : Nat} {v : Value} {n : Nat} {xs : List Value} (h : w.ownsRow B e size v n xs) (hb : B' ≤ B) : w.ownsRow B' e size v n xs := by
  obtain ⟨h1, h2⟩ := h
  refine ⟨h1, ?_⟩
  rcases h2 with h2 | ⟨g, cap, cur, hv, hg, r⟩
  · exact .inl h2
  · exact .inr ⟨g, cap, cur, hv, Nat.le_trans hb hg, r⟩
theorem OwnI.made0 (w : World) : OwnI (w.alloc (.cells #[] 3)) w.heap.size (.slice (some ⟨w.heap.size, 0, none⟩) 0 0) [] :=
  ⟨rfl, .inr ⟨w.heap.size, 0, #[], rfl, Nat.le_refl _, heap_alloc_new _ _, Nat.le_refl _, by simp, rfl, rfl⟩⟩
theorem OwnI.base {w : World} {B B' : Nat} {v : Value} {xs : List Int} (h : OwnI w B v xs) (hb : B' ≤ B) : OwnI w B' v xs := ownsRow_base h hb
theorem ownsRow_block {w : World} {B : Nat} {e : TypeId} {size : Nat} {v : Value} {n : Nat} {xs : List Value} (h : w.ownsRow B e size v n xs) : ∀ k, v.ownBlock = some k → B ≤ k := fun k hk => (h.lt k hk).1
theorem Ext.grown {W w w' : World} {row : Option Nat} (h : Ext W w) (hg : w.grownBy w' row) (hr : ∀ k, row = some k → W.heap.size ≤ k) : Ext W w' := Below.grown h hg h.size hr
/-- What such a list is, as a value. -/
theorem OwnI.val {w : World} {B : Nat} {v : Value} {xs : List Int} (h : OwnI w B v xs) :
    ∃ a c, v = .slice a xs.length c ∧ xs.length ≤ c ∧ c ≤ maxLen ∧ RdI w a xs ∧ (xs ≠ [] → ∃ g, a = some ⟨g, 0, none⟩ ∧ B ≤ g ∧ BlkF w g xs.length (fun j => .int .i64 (xs.getD j 0))) := by
  obtain ⟨h1, h2⟩ := h
  rcases h2 with ⟨rfl, h2⟩ | ⟨g, cap, cur, rfl, hg, hh, hc, hm, hs, ht⟩
  · have : xs = [] := List.length_eq_zero_iff.1 h2
    subst this
    exact ⟨none, 0, rfl, Nat.le_refl _, by simp, RdI.nil _ _, fun h => absurd rfl h⟩
  · have hlt : g < w.heap.size := by
      rcases Nat.lt_or_ge g w.heap.size with hlt | hge
      · exact hlt
      · rw [Array.getElem?_eq_none hge] at hh; cases hh
    have hcell : ∀ (j : Nat) (x : Int), xs[j]? = some x → w.cell? ⟨g, j, none⟩ = some (.int .i64 x) := fun j x hx => by
      have hj := lt_of_at hx
      have h3 : (cur.toList.take (xs.length * 1))[j]? = some (.int .i64 x) := by rw [ht]; simp [hx]
      rw [List.getElem?_take, if_pos (by omega)] at h3
      simp only [World.cell?, hh]
      simpa using h3
    refine ⟨some ⟨g, 0, none⟩, cap, rfl, hc, hm, fun _ => ⟨g, 0, rfl, fun j x hx => by rw [Nat.zero_add]; exact hcell j x hx⟩, fun _ => ⟨g, rfl, hg, hlt, fun o => by simp [World.frozen?, hh], fun o ho => ?_⟩⟩
    obtain ⟨x, hx⟩ := at_of_lt ho
    rw [hcell o x hx]; simp [hx]

/-- v reads as the integers xs, in a block from B on. -/
def FrI (w : World) (B : Nat) (v : Value) (xs : List Int) : Prop := ∃ a c, v = .slice a xs.length c ∧ xs.length ≤ c ∧ RdI w a xs ∧ ∀ b off, a = some ⟨b, off, none⟩ → xs ≠ [] → B ≤ b ∧ b < w.heap.size
theorem OwnI.fr {w : World} {B : Nat} {v : Value} {xs : List Int} (h : OwnI w B v xs) : FrI w B v xs := by
  obtain ⟨a, c, hv, hc, _, hR, ho⟩ := h.val
  refine ⟨a, c, hv, hc, hR, fun b off ha hne => ?_⟩
  obtain ⟨g, hg, hB, hb⟩ := ho hne
  rw [hg] at ha
  injection ha with ha
  injection ha with ha
  subst ha
  exact ⟨hB, hb.lt⟩
theorem FrI.fr {w : World} {B : Nat} {v : Value} {xs : List Int} (h : FrI w B v xs) : FrI w B v xs := h
theorem FrI.ext {w w' : World} {B : Nat} {v : Value} {xs : List Int} (h : FrI w B v xs) (hw : Ext w w') : FrI w' B v xs := by
  obtain ⟨a, c, hv, hc, hR, hb⟩ := h
  exact ⟨a, c, hv, hc, hR.ext hw, fun b off ha hne => ⟨(hb b off ha hne).1, Nat.lt_of_lt_of_le (hb b off ha hne).2 hw.size⟩⟩
theorem FrI.base {w : World} {B B' : Nat} {v : Value} {xs : List Int} (h : FrI w B v xs) (hB : B' ≤ B) : FrI w B' v xs := by
  obtain ⟨a, c, hv, hc, hR, hb⟩ := h
  exact ⟨a, c, hv, hc, hR, fun b off ha hne => ⟨Nat.le_trans hB (hb b off ha hne).1, (hb b off ha hne).2⟩⟩
theorem FrI.nil (w : World) (B : Nat) (a : Option Addr) (c : Nat) : FrI w B (.slice a 0 c) [] := ⟨a, c, rfl, Nat.zero_le _, RdI.nil _ _, fun _ _ _ h => absurd rfl h⟩
theorem BlkF.frI {w : World} {g n B c : Nat} {f : Nat → Value} {xs : List Int} (hB : BlkF w g n f) (hn : xs.length = n) (hf : ∀ (j : Nat) (x : Int), xs[j]? = some x → f j = .int .i64 x) (hg : B ≤ g) (hc : n ≤ c) : FrI w B (.slice (some ⟨g, 0, none⟩) n c) xs := by
  subst hn
  refine ⟨some ⟨g, 0, none⟩, c, rfl, hc, fun _ => ⟨g, 0, rfl, fun j x hx => ?_⟩, fun b off ha _ => ?_⟩
  · rw [Nat.zero_add, hB.cell j (lt_of_at hx), hf j x hx]
  · injection ha with ha
    injection ha with ha
    subst ha
    exact ⟨hg, hB.lt⟩
theorem BlkF.congr {w : World} {g n : Nat} {f f' : Nat → Value} (h : BlkF w g n f) (hf : ∀ o, o < n → f o = f' o) : BlkF w g n f' := ⟨h.lt, h.fr, fun o ho => by rw [h.cell o ho, hf o ho]⟩
theorem made_int (n j : Nat) (hj : j < n) : (madeCells (Value.int .i64 0).cells n).getD j undef = .int .i64 0 := by
  have h := toList_madeCells_one (.int .i64 0) n
  have h2 : (madeCells #[Value.int .i64 0] n).toList[j]? = some (.int .i64 0) := by rw [h]; simp [hj]
  show (madeCells #[Value.int .i64 0] n).getD j undef = _
  rw [Array.getElem?_toList] at h2
  simp [h2]

theorem wpList_appI {ops : Array Oper} {rest : List Oper} {o : Oper} {a : Act} {Q : Exit → Act → World → Prop} (W0 w3 : World) (hgd : o.guard = none) (s x : Operand)
    (ho : o.op = .call { callee := .builtin .append, args := #[s, x], argTypes := #[33, 33] }) (v : Value) (xs : List Int) (y : Int) (hs : a.eval s = v) (hown : OwnI w3 W0.heap.size v xs) (hW : Ext W0 w3)
    (hx : a.eval x = .slice (some ⟨w3.heap.size, 0, none⟩) 1 1) (hlen : xs.length ≤ 2000000)
    (h : ∀ v' w', OwnI w' W0.heap.size v' (xs ++ [y]) → Ext W0 w' → wpList Try.prog ops Q rest (a.put o.dst v') w') : wpList Try.prog ops Q (o :: rest) a (w3.alloc (.cells #[.int .i64 y] 3)) := by
  obtain ⟨i0, hi, hz0, hz1, hz2⟩ := info_parts info_int
  have hW3 : Ext W0 (w3.alloc (.cells #[.int .i64 y] 3)) := hW.alloc _
  have hown3 := hown.ext (Ext.new w3 (.cells #[.int .i64 y] 3))
  refine wpList_append_own _ hgd s x 33 ho W0.heap.size 3 i0 (.int .i64 0) 1 8 Try.underlying33 hi hz0 hz1 hz2 rfl (by decide) v xs.length _ hs hown3 ⟨w3.heap.size, 0, none⟩ 1 1 [.int .i64 y] hx rfl ?_ ?_ ?_ ?_ hW3.size ?_
  · intro j u hj
    match j, hj with
    | 0, hj => simp at hj; subst hj; simp [Addr.add]
  · intro u hu; simp at hu; subst hu; rfl
  · unfold maxLen; omega
  · omega
  · intro v' w' h1 h2 _
    refine h v' w' ?_ (hW3.grown h2 (ownsRow_block hown3))
    unfold OwnI
    simpa using h1

set_option maxHeartbeats 1000000 in
theorem eqISn (w : World) (a1 a2 : Option Addr) (c1 c2 n : Nat) (xs ys : List Int) (hX : RdI w a1 xs) (hY : RdI w a2 ys) (hl : n ≤ 2000000) (hxn : Hid (xs.length = n)) (hyn : Hid (ys.length = n)) :
    Calls Try.prog 19 #[.slice a1 n c1, .slice a2 n c2] w fun e w' => e = .returned (.bool (decide (xs = ys))) ∧ Ext w w' := by
  go_enter Try.func19, Try.ntmps19
  go_wp2_with fail
  go_loopw [5] (fun i wr => ∃ k : Nat, k ≤ n ∧ i = .int .i64 k ∧ Hid (xs.take k = ys.take k) ∧ Ext w wr) (fun i _ => n - (intOf i).toNat)
  case atStart => exact ⟨0, Nat.zero_le _, rfl, rfl, Ext.refl _⟩
  case round =>
    obtain ⟨k, hk, rfl, hall, hwr⟩ := hrel
    by_cases hlt : k < n
    · obtain ⟨x, hx⟩ := at_of_lt (xs := xs) (k := k) (by rw [hxn.out]; exact hlt)
      obtain ⟨y, hy⟩ := at_of_lt (xs := ys) (k := k) (by rw [hyn.out]; exact hlt)
      obtain ⟨b, off, rfl, c0⟩ := (hX.ext hwr).at_ hx
      obtain ⟨b', off', rfl, d0⟩ := (hY.ext hwr).at_ hy
      have hx' := hide hx
      have hy' := hide hy
      clear hx hy
      cases e : (x != y)
      all_goals
        go_wp2
        refine wp_region_X (by kernel_rfl) (by kernel_rfl) ?_
        repeat' (refine wpX_stepQ (fun K hK => ?_)
                 go_simp
                 try split
                 all_goals
                   first
                   | (refine hK _ ?_
                      clear hK K)
                   | (apply Exists.intro
                      refine ⟨fun wq hwq => ?_, hK _ ?_⟩
                      · have hcq := hwq.cellS
                        go_simp
                        first
                        | exact ⟨Ext.refl _, rfl⟩
                      clear hK K))
        refine wpX_nil (fun wz hwz => ?_)
        go_wp2
      · exact ⟨⟨k + 1, by omega, by go_num, take_ext hall.out hx'.out hy'.out (by simpa using e), hwr.trans hwz⟩, by simp [intOf]; omega⟩
      · go_ret
        refine ⟨ret_bool ?_, hwr.trans hwz⟩
        have h1 := hx'.out
        have h2 := hy'.out
        symm
        rw [decide_eq_false_iff_not]
        rintro rfl
        rw [h1] at h2
        injection h2 with h2
        simp [h2] at e
    · go_wp2
      go_ret
      refine ⟨ret_bool ?_, hwr⟩
      have h := hall.out
      rw [List.take_of_length_le (by rw [hxn.out]; omega), List.take_of_length_le (by rw [hyn.out]; omega)] at h
      simp [h]

theorem eqIS (w : World) (a1 a2 : Option Addr) (c1 c2 : Nat) (xs ys : List Int) (hX : RdI w a1 xs) (hY : RdI w a2 ys) (hl : xs.length ≤ 2000000) :
    Calls Try.prog 19 #[.slice a1 xs.length c1, .slice a2 ys.length c2] w fun e w' => e = .returned (.bool (decide (xs = ys))) ∧ Ext w w' := by
  by_cases hlen : xs.length = ys.length
  · rw [← hlen]
    exact eqISn w a1 a2 c1 c2 xs.length xs ys hX hY hl rfl hlen.symm
  · go_enter Try.func19, Try.ntmps19
    go_wp2
    go_ret
    exact ⟨ret_bool (by simp; rintro rfl; exact hlen rfl), (by repeat (first | exact Ext.refl _ | assumption | refine Ext.alloc ?_ _ | refine Ext.drew ?_ | refine Ext.trans ?_ (by assumption)))⟩

/-- Only block g has turned (and memory is added). -/
def Only (g : Nat) (w w' : World) : Prop := w.grownBy w' (some g)
theorem Only.refl (g : Nat) (w : World) : Only g w w := ⟨rfl, rfl, rfl, Nat.le_refl _, fun _ _ _ => rfl⟩
theorem Only.trans {g : Nat} {a b c : World} (h : Only g a b) (k : Only g b c) : Only g a c :=
  ⟨k.os.trans h.os, k.tape.trans h.tape, k.output.trans h.output, Nat.le_trans h.size k.size, fun i hi hne => (k.block i (Nat.lt_of_lt_of_le hi h.size) hne).trans (h.block i hi hne)⟩
theorem Only.setCell {g : Nat} {a w : World} (h : Only g a w) (i : Nat) (v : Value) : Only g a (w.setCell ⟨g, i, none⟩ v) :=
  ⟨h.os, h.tape, h.output, by simpa [World.setCell] using h.size, fun k hk hne => (Below.heap_setCell w _ v k (by rintro rfl; exact hne rfl)).trans (h.block k hk hne)⟩
theorem Only.of_ext {g : Nat} {w w' : World} (h : Ext w w') : Only g w w' := ⟨h.os, h.tape, h.output, Below.size h, fun k hk _ => Below.block h k hk⟩
theorem Only.keep {g : Nat} {w w' : World} (h : Only g w w') {p : Addr} (hp : p.block ≠ g) {v : Value} (hc : w.cell? p = some v) : w'.cell? p = some v :=
  (World.cell?_of_block (w := w) (h.block p.block (World.block_lt_of_cell? w p hc) (fun e => hp (by injection e)))).trans hc
theorem Only.ext {g : Nat} {W w w' : World} (h : Ext W w) (hg : Only g w w') (hb : W.heap.size ≤ g) : Ext W w' := h.grown hg (fun k hk => by injection hk with hk; omega)
theorem Only.rdI {g : Nat} {w w' : World} (h : Only g w w') {a : Option Addr} {xs : List Int} (hr : RdI w a xs) (hne : ∀ b off, a = some ⟨b, off, none⟩ → b ≠ g) : RdI w' a xs := fun hx => by
  obtain ⟨b, off, rfl, hc⟩ := hr hx
  exact ⟨b, off, rfl, fun j x hj => h.keep (hne b off rfl) (hc j x hj)⟩
theorem Only.rdP {g : Nat} {w w' : World} (h : Only g w w') {a : Option Addr} {xs : List (Int × Int)} (hr : RdP w a xs) (hne : ∀ b off, a = some ⟨b, off, none⟩ → b ≠ g) : RdP w' a xs := fun hx => by
  obtain ⟨b, off, rfl, hc⟩ := hr hx
  exact ⟨b, off, rfl, fun j x hj => ⟨h.keep (hne b off rfl) (hc j x hj).1, h.keep (hne b off rfl) (hc j x hj).2⟩⟩
theorem Only.blk {g g' n : Nat} {f : Nat → Value} {w w' : World} (h : Only g w w') (hb : BlkF w g' n f) (hne : g' ≠ g) : BlkF w' g' n f :=
  ⟨Nat.lt_of_lt_of_le hb.lt h.size, fun o => (World.frozen?_of_block (w := w) (h.block g' hb.lt (fun e => hne (by injection e)))).trans (hb.fr o), fun o ho => h.keep (by exact hne) (hb.cell o ho)⟩

set_option maxHeartbeats 1000000 in
theorem markIS (w : World) (g n c : Nat) (f : Nat → Value) (k0 : Int) (hB : BlkF w g n f) (hn : n ≤ 2000000) (h0 : 0 ≤ k0) (h1 : k0 ≤ 2000000) :
    Calls Try.prog 21 #[.slice (some ⟨g, 0, none⟩) n c, .int .i64 k0] w fun e w' => e = .returned (.int .i64 (k0 + n)) ∧ Only g w w' ∧ BlkF w' g n (fun j => .int .i64 (k0 + j)) := by
  go_enter Try.func21, Try.ntmps21
  go_wp2
  go_loopw [1, 5] (fun m i wr => ∃ (k : Nat) (f : Nat → Value), k ≤ n ∧ i = .int .i64 k ∧ m = .int .i64 (k0 + k) ∧ BlkF wr g n f ∧ (∀ j, j < k → f j = .int .i64 (k0 + j)) ∧ Only g w wr) (fun _ i _ => n - (intOf i).toNat)
  case atStart => exact ⟨0, f, Nat.zero_le _, rfl, by go_num, hB, fun j hj => absurd hj (by omega), Only.refl _ _⟩
  case round =>
    obtain ⟨k, f1, hk, rfl, rfl, hB1, hf, hO⟩ := hrel
    have HF := hide hf
    clear hf
    by_cases hlt : k < n
    · have d0 := hB1.cell k hlt
      have z0 := hB1.fr k
      go_wp2
      refine ⟨⟨k + 1, _, by omega, by go_num, by go_num, hB1.set k hlt _, fun j hj => ?_, hO.setCell _ _⟩, by simp [intOf]; omega⟩
      by_cases e : j = k
      · subst e; rw [if_pos rfl]
      · rw [if_neg e]; exact HF.out j (by omega)
    · obtain rfl : k = n := by omega
      go_wp2
      go_ret
      exact ⟨rfl, hO, hB1.lt, hB1.fr, fun o ho => by rw [hB1.cell o ho, HF.out o ho]⟩

theorem markIS0 (w : World) (a : Option Addr) (c : Nat) (k0 : Int) :
    Calls Try.prog 21 #[.slice a 0 c, .int .i64 k0] w fun e w' => e = .returned (.int .i64 k0) ∧ w = w' := by
  go_enter Try.func21, Try.ntmps21
  go_wp2
  refine wp_loop_rounds 1 ?_
  rw [rounds_succ]
  go_wp2
  go_ret
  exact ⟨rfl, rfl⟩

set_option maxHeartbeats 1000000 in
theorem heldIS (w : World) (a : Option Addr) (c n : Nat) (k0 : Int) (xs : List Int) (hX : RdI w a xs) (hxn : Hid (xs.length = n)) (hv : Hid (∀ (j : Nat) (x : Int), xs[j]? = some x → x = k0 + j)) (hn : n ≤ 2000000) (h0 : 0 ≤ k0) (h1 : k0 ≤ 2000000) :
    Calls Try.prog 22 #[.slice a n c, .int .i64 k0] w fun e w' => e = .returned (.int .i64 (k0 + n)) ∧ Ext w w' := by
  go_enter Try.func22, Try.ntmps22
  go_wp2
  go_loopw [1, 5] (fun m i wr => ∃ (k : Nat), k ≤ n ∧ i = .int .i64 k ∧ m = .int .i64 (k0 + k) ∧ Ext w wr) (fun _ i _ => n - (intOf i).toNat)
  case atStart => exact ⟨0, Nat.zero_le _, rfl, by go_num, Ext.refl _⟩
  case round =>
    obtain ⟨k, hk, rfl, rfl, hwr⟩ := hrel
    by_cases hlt : k < n
    · obtain ⟨x, hx⟩ := at_of_lt (xs := xs) (k := k) (by rw [hxn.out]; exact hlt)
      obtain ⟨b, off, rfl, c0⟩ := (hX.ext hwr).at_ hx
      have e := hv.out k x hx
      subst e
      clear hx
      go_wp2
      exact ⟨⟨k + 1, by omega, by go_num, by go_num, hwr⟩, by simp [intOf]; omega⟩
    · obtain rfl : k = n := by omega
      go_wp2
      go_ret
      exact ⟨rfl, hwr⟩
end Go.Proofs.Ytdkkmhncdlaphaa
