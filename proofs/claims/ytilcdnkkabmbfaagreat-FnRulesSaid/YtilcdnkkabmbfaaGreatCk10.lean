/- A candidate with a majority of first places. Weights of places and the scores by them, of the spec. Copeland's scores. A whole list appended to an own list. -/
import Derived.Test.YtilcdnkkabmbfaaGreatCk9
import Derived.Test.YtilcdnkkabmbfaaGreatCk6
namespace Go.Proofs.YtilcdnkkabmbfaaGreat
open Go.RowKit

def fstV (vs : List Vt) (a : Nat) : Int := plcV vs a 0
set_option maxRecDepth 100000 in
theorem fstV_bd {n : Int} {vs : List Vt} (hS : SmallV n vs) (a : Nat) : 0 ≤ fstV vs a ∧ fstV vs a ≤ 24000 := sumV_bd' hS

def majO (sz : Int) (vs : List Vt) : Int := if profOk sz vs then findI (fun x => decide (allV vs < 2 * x)) (rowL sz.toNat (fstV vs)) else -1

def pluW (j : Nat) : Int := if j = 0 then 1 else 0
set_option maxRecDepth 100000 in
theorem pluG : GoodW pluW := pluF
set_option maxRecDepth 100000 in
set_option maxHeartbeats 1000000 in
theorem pluOne (w : World) (j : Nat) (hj : j ≤ 5) : Calls Tryz.prog 83 #[.int .i64 j] w fun e w' => e = .returned (.int .i64 (pluW j)) ∧ Ext w w' := by
  by_cases h0 : j = 0
  · subst h0
    go_enter Tryz.func83, Tryz.ntmps83
    go_wp2
    go_ret
    exact ⟨rfl, Ext.refl _⟩
  · go_enter Tryz.func83, Tryz.ntmps83
    go_wp2
    go_ret
    exact ⟨ret_int (by unfold pluW; rw [if_neg h0] <;> first | omega | (split <;> omega)), Ext.refl _⟩

set_option maxRecDepth 100000 in
set_option maxHeartbeats 1000000 in
theorem weightsOf_no (w : World) (m : Int) (K : Value) (h : inR m 1 5 = false) :
    Calls Tryz.prog 82 #[.int .i64 m, K] w fun e w' => e = .returned (.slice none 0 0) ∧ Ext w w' := by
  go_enter Tryz.func82, Tryz.ntmps82
  go_wp2_with (go_at_call 63; refine (in_impl _ _ _ _).mono ?_; rintro e w1 ⟨rfl, hw1⟩)
  go_ret
  exact ⟨rfl, (by repeat (first | exact Ext.refl _ | assumption | refine Ext.alloc ?_ _ | refine Ext.drew ?_ | refine Ext.trans ?_ (by assumption)))⟩

set_option maxRecDepth 100000 in
set_option maxHeartbeats 1000000 in
theorem plu_impl (w : World) (m : Int) :
    Calls Tryz.prog 38 #[.int .i64 m] w fun e w' => ∃ v, e = .returned v ∧ (∀ n : Nat, m = n → inR m 1 5 = true → OwnI w' w.heap.size v (rowL n pluW)) ∧ Ext w w' := by
  cases h : inR m 1 5
  · go_enter Tryz.func38, Tryz.ntmps38
    go_wp2_with fail
    refine (weightsOf_no _ _ _ h).mono ?_
    rintro e w1 ⟨rfl, hw1⟩
    go_wp2
    go_ret
    exact ⟨_, rfl, (fun n _ h => by cases h), (by repeat (first | exact Ext.refl _ | assumption | refine Ext.alloc ?_ _ | refine Ext.drew ?_ | refine Ext.trans ?_ (by assumption)))⟩
  · obtain ⟨h1, h2⟩ := inR_iff.1 h
    obtain ⟨n, rfl⟩ : ∃ n : Nat, m = n := ⟨m.toNat, by omega⟩
    go_enter Tryz.func38, Tryz.ntmps38
    go_wp2_with fail
    refine (weightsOf_impl 83 #[] pluW _ n (by omega) (by omega) Tryz.call83 (fun j w' hj _ => pluOne w' j (by omega))).mono ?_
    rintro e w1 ⟨v, rfl, hv, hw1⟩
    go_wp2
    go_ret
    refine ⟨_, rfl, fun k hk _ => ?_, (by repeat (first | exact Ext.refl _ | assumption | refine Ext.alloc ?_ _ | refine Ext.drew ?_ | refine Ext.trans ?_ (by assumption)))⟩
    have : n = k := by omega
    subst this
    exact hv

set_option maxRecDepth 100000 in
set_option maxHeartbeats 1000000 in
theorem sco_no (w : World) (sz : Int) (a : Option Addr) (c : Nat) (vs : List Vt) (u : Value) (hR : RdV w a vs) (h0 : profOk sz vs = false) :
    Calls Tryz.prog 81 #[.agg #[.int .i64 sz, .slice a vs.length c], u] w fun e w' => e = .returned (.slice none 0 0) ∧ Ext w w' := by
  have q0 := new0 w (.int .i64 sz) [.slice a vs.length c] 29
  have q1 := new1 w (.int .i64 sz) (.slice a vs.length c) [] 29
  go_enter Tryz.func81, Tryz.ntmps81
  go_wp2_with (go_at_call 36; refine (prof_impl _ _ _ _ _ (hR.ext (by repeat (first | exact Ext.refl _ | assumption | refine Ext.alloc ?_ _ | refine Ext.drew ?_ | refine Ext.trans ?_ (by assumption))))).mono ?_; rintro e w1 ⟨rfl, hw1⟩; have q0 := Ext.keep (w' := w1) (by repeat (first | exact Ext.refl _ | assumption | refine Ext.alloc ?_ _ | refine Ext.drew ?_ | refine Ext.trans ?_ (by assumption))) q0; have q1 := Ext.keep (w' := w1) (by repeat (first | exact Ext.refl _ | assumption | refine Ext.alloc ?_ _ | refine Ext.drew ?_ | refine Ext.trans ?_ (by assumption))) q1)
  go_ret
  exact ⟨rfl, (by repeat (first | exact Ext.refl _ | assumption | refine Ext.alloc ?_ _ | refine Ext.drew ?_ | refine Ext.trans ?_ (by assumption)))⟩

def fstO (sz : Int) (vs : List Vt) : List Int := if profOk sz vs then rowL sz.toNat (fstV vs) else []
set_option maxRecDepth 100000 in
set_option maxHeartbeats 1000000 in
theorem fst_impl (w : World) (sz : Int) (a : Option Addr) (c : Nat) (vs : List Vt) (hR : RdV w a vs) :
    Calls Tryz.prog 123 #[.agg #[.int .i64 sz, .slice a vs.length c]] w fun e w' => ∃ v, e = .returned v ∧ WrI w' w.heap.size v (fstO sz vs) ∧ Ext w w' := by
  have q0 := new0 w (.int .i64 sz) [.slice a vs.length c] 29
  have q1 := new1 w (.int .i64 sz) (.slice a vs.length c) [] 29
  cases h0 : profOk sz vs
  · go_enter Tryz.func123, Tryz.ntmps123
    go_wp2
    refine wp_region_X (by kernel_rfl) (by kernel_rfl) ?_
    repeat' (refine wpX_stepQ (fun K hK => ?_)
             go_simp
             try (rw [if_neg (by intro h; simp [undef] at h)])
             try split
             all_goals
               first
               | (refine hK _ ?_
                  clear hK K)
               | (apply Exists.intro
                  refine ⟨fun wq hwq => ?_, hK _ ?_⟩
                  · have hcq := hwq.cellS
                    go_simp
                    first
                    | exact ⟨Ext.refl _, rfl⟩
                  clear hK K))
    refine wpX_stepS rfl (by kernel_rfl) (fun K hK wq hwq => ?_)
    go_simp
    refine (plu_impl _ _).mono ?_
    rintro e w1 ⟨v, rfl, _, hw1⟩
    refine ⟨hw1, hK _ _ ?_⟩
    clear hK K
    repeat' (refine wpX_stepQ (fun K hK => ?_)
             go_simp
             try (rw [if_neg (by intro h; simp [undef] at h)])
             try split
             all_goals
               first
               | (refine hK _ ?_
                  clear hK K)
               | (apply Exists.intro
                  refine ⟨fun wq hwq => ?_, hK _ ?_⟩
                  · have hcq := hwq.cellS
                    go_simp
                    first
                    | exact ⟨Ext.refl _, rfl⟩
                    | exact ⟨Ext.refl _, sco_no _ _ _ _ _ _ (hR.ext (by repeat (first | exact Ext.refl _ | assumption | refine Ext.alloc ?_ _ | refine Ext.drew ?_ | refine Ext.trans ?_ (by assumption)))) h0⟩
                  clear hK K))
    refine wpX_nil (fun wz hwz => ?_)
    go_wp2
    go_ret
    exact ⟨_, rfl, by simp [fstO, h0]; exact WrI.nil _ _ _ _, (by repeat (first | exact Ext.refl _ | assumption | refine Ext.alloc ?_ _ | refine Ext.drew ?_ | refine Ext.trans ?_ (by assumption)))⟩
  · obtain ⟨n, rfl, n1, n2⟩ := prof_nat h0
    have HS := hide (prof_small h0)
    have hin : inR (n : Int) 1 5 = true := inR_iff.2 (by omega)
    go_enter Tryz.func123, Tryz.ntmps123
    go_wp2
    refine wp_region_X (by kernel_rfl) (by kernel_rfl) ?_
    repeat' (refine wpX_stepQ (fun K hK => ?_)
             go_simp
             try (rw [if_neg (by intro h; simp [undef] at h)])
             try split
             all_goals
               first
               | (refine hK _ ?_
                  clear hK K)
               | (apply Exists.intro
                  refine ⟨fun wq hwq => ?_, hK _ ?_⟩
                  · have hcq := hwq.cellS
                    go_simp
                    first
                    | exact ⟨Ext.refl _, rfl⟩
                  clear hK K))
    refine wpX_stepS rfl (by kernel_rfl) (fun K hK wq hwq => ?_)
    go_simp
    refine (plu_impl _ _).mono ?_
    rintro e w1 ⟨v, rfl, hv, hw1⟩
    refine ⟨hw1, hK _ _ ?_⟩
    clear hK K
    have hv := hv n rfl hin
    obtain ⟨av, cv, rfl, _, _, hRv, _⟩ := hv.val
    rw [rowL_len]
    refine wpX_stepS rfl (by kernel_rfl) (fun K hK wq hwq => ?_)
    go_simp
    refine (sco_impl _ n a av c cv vs pluW n rfl (hR.ext (by repeat (first | exact Ext.refl _ | assumption | refine Ext.alloc ?_ _ | refine Ext.drew ?_ | refine Ext.trans ?_ (by assumption)))) (hRv.ext (by repeat (first | exact Ext.refl _ | assumption | refine Ext.alloc ?_ _ | refine Ext.drew ?_ | refine Ext.trans ?_ (by assumption)))) pluG h0).mono ?_
    rintro e w2 ⟨v2, rfl, hv2, hw2⟩
    refine ⟨hw2, hK _ _ ?_⟩
    clear hK K
    repeat' (refine wpX_stepQ (fun K hK => ?_)
             go_simp
             try (rw [if_neg (by intro h; simp [undef] at h)])
             try split
             all_goals
               first
               | (refine hK _ ?_
                  clear hK K)
               | (apply Exists.intro
                  refine ⟨fun wq hwq => ?_, hK _ ?_⟩
                  · have hcq := hwq.cellS
                    go_simp
                    first
                    | exact ⟨Ext.refl _, rfl⟩
                  clear hK K))
    refine wpX_nil (fun wz hwz => ?_)
    go_wp2
    go_ret
    refine ⟨_, rfl, ?_, (by repeat (first | exact Ext.refl _ | assumption | refine Ext.alloc ?_ _ | refine Ext.drew ?_ | refine Ext.trans ?_ (by assumption)))⟩
    have he : fstO n vs = rowL n (scoV pluW vs) := by
      simp only [fstO, h0, if_true, Int.toNat_natCast]
      exact rowL_congr (fun j hj => (plc_sco hj HS.out).symm)
    rw [he]
    exact (hv2.ext hwz).base (Ext.size (by repeat (first | exact Ext.refl _ | assumption | refine Ext.alloc ?_ _ | refine Ext.drew ?_ | refine Ext.trans ?_ (by assumption))))

set_option maxRecDepth 100000 in
set_option maxHeartbeats 2000000 in
theorem maj_impl (w : World) (sz : Int) (a : Option Addr) (c : Nat) (vs : List Vt) (hR : RdV w a vs) :
    Calls Tryz.prog 64 #[.agg #[.int .i64 sz, .slice a vs.length c]] w fun e w' => e = .returned (.int .i64 (majO sz vs)) ∧ Ext w w' := by
  have q0 := new0 w (.int .i64 sz) [.slice a vs.length c] 29
  have q1 := new1 w (.int .i64 sz) (.slice a vs.length c) [] 29
  obtain ⟨L, hL⟩ : ∃ L : Nat, L = (fstO sz vs).length := ⟨_, rfl⟩
  have hL5 : L ≤ 5 := by
    rw [hL]; unfold fstO
    cases h0 : profOk sz vs
    · simp
    · obtain ⟨n, rfl, n1, n2⟩ := prof_nat h0
      simp [rowL_len]; omega
  have hbd : ∀ (j : Nat) x, (fstO sz vs)[j]? = some x → profOk sz vs = true ∧ 0 ≤ x ∧ x ≤ 24000 := fun j x hx => by
    cases h0 : profOk sz vs
    · simp [fstO, h0] at hx
    · simp only [fstO, h0, if_true] at hx
      obtain ⟨hj, rfl⟩ := rowL_val hx
      exact ⟨rfl, fstV_bd (prof_small h0) j⟩
  have hall : majO sz vs = findI (fun x => decide (allV vs < 2 * x)) (fstO sz vs) := by
    unfold majO fstO
    cases h0 : profOk sz vs
    · simp [findI]
    · simp
  have HB := hide hbd
  have HA := hide hall
  clear hbd hall
  go_enter Tryz.func64, Tryz.ntmps64
  go_wp2_with fail
  refine (fst_impl _ sz a c vs (hR.ext (by repeat (first | exact Ext.refl _ | assumption | refine Ext.alloc ?_ _ | refine Ext.drew ?_ | refine Ext.trans ?_ (by assumption))))).mono ?_
  rintro e w2 ⟨v, rfl, hv, hw2⟩
  have q0 := Ext.keep (w' := w2) (by repeat (first | exact Ext.refl _ | assumption | refine Ext.alloc ?_ _ | refine Ext.drew ?_ | refine Ext.trans ?_ (by assumption))) q0
  have q1 := Ext.keep (w' := w2) (by repeat (first | exact Ext.refl _ | assumption | refine Ext.alloc ?_ _ | refine Ext.drew ?_ | refine Ext.trans ?_ (by assumption))) q1
  obtain ⟨av, cv, rfl, _, hRv, _⟩ := hv.fr
  rw [← hL]
  have HL := hide hL
  have hw : Ext w w2 := (by repeat (first | exact Ext.refl _ | assumption | refine Ext.alloc ?_ _ | refine Ext.drew ?_ | refine Ext.trans ?_ (by assumption)))
  have hR0 := hR.ext hw
  clear hv hL
  go_wp2_with fail
  obtain ⟨wo, hwo⟩ : ∃ wo : World, wo = w2 := ⟨_, rfl⟩
  subst hwo
  go_loopw [3, 4, 8] (fun _ _ i wr => ∃ j : Nat, j ≤ L ∧ i = .int .i64 j ∧ Hid (((fstO sz vs).take j).all (fun x => !decide (allV vs < 2 * x)) = true) ∧ Ext wo wr) (fun _ _ i _ => L - (intOf i).toNat)
  case atStart => exact ⟨0, Nat.zero_le _, rfl, rfl, Ext.refl _⟩
  case round =>
    obtain ⟨i, hi, rfl, hno, hwr⟩ := hrel
    have r0 := hwr.keep q0
    have r1 := hwr.keep q1
    have hRr := hR0.ext hwr
    by_cases hit : i < L
    · obtain ⟨x, hx⟩ := at_of_lt (xs := fstO sz vs) (k := i) (by rw [← HL.out]; exact hit)
      obtain ⟨b2, off2, rfl, e0⟩ := (hRv.ext hwr).at_ hx
      obtain ⟨b0, b1, b2⟩ := HB.out i x hx
      have HX := hide hx
      have HC : Hid (∀ w', Ext wr w' → Calls Tryz.prog 90 #[.agg #[.int .i64 sz, .slice a vs.length c]] w' fun e w'' => e = .returned (.int .i64 (allV vs)) ∧ Ext w' w'') := fun w' hw' =>
        (count_impl w' sz a c vs (hRr.ext hw')).mono fun _ _ ⟨h1, h2⟩ => ⟨by rw [h1, if_pos b0], h2⟩
      clear hx b0
      by_cases hq : allV vs < 2 * x
      · go_wp2_with (go_at_call 90; refine (HC.out _ (by repeat (first | exact Ext.refl _ | assumption | refine Ext.alloc ?_ _ | refine Ext.drew ?_ | refine Ext.trans ?_ (by assumption)))).mono ?_; rintro e w1 ⟨rfl, hw1⟩)
        go_ret
        exact ⟨ret_int (by rw [HA.out]; exact (findI_some HX.out hno.out (by simpa using hq)).symm), hw.trans (by repeat (first | exact Ext.refl _ | assumption | refine Ext.alloc ?_ _ | refine Ext.drew ?_ | refine Ext.trans ?_ (by assumption)))⟩
      · go_wp2_with (go_at_call 90; refine (HC.out _ (by repeat (first | exact Ext.refl _ | assumption | refine Ext.alloc ?_ _ | refine Ext.drew ?_ | refine Ext.trans ?_ (by assumption)))).mono ?_; rintro e w1 ⟨rfl, hw1⟩)
        exact ⟨⟨i + 1, by omega, by go_num, (all_take HX.out hno.out).trans (by simp; omega), (by repeat (first | exact Ext.refl _ | assumption | refine Ext.alloc ?_ _ | refine Ext.drew ?_ | refine Ext.trans ?_ (by assumption)))⟩, by simp [intOf]; omega⟩
    · go_wp2
      go_ret
      exact ⟨ret_int (by rw [HA.out]; exact (findI_none (all_whole (by rw [← HL.out]; omega) hno.out)).symm), hw.trans hwr⟩

def borW (n : Nat) (j : Nat) : Int := ((n - 1 - j : Nat) : Int)
def vetW (n : Nat) (j : Nat) : Int := if j + 1 < n then 1 else 0
set_option maxRecDepth 100000 in
theorem borG {n : Nat} (hn : n ≤ 5) : GoodW (borW n) := ⟨fun j => by unfold borW; omega, fun j => by unfold borW; omega⟩
set_option maxRecDepth 100000 in
theorem vetG (n : Nat) : GoodW (vetW n) := ⟨fun j => by unfold vetW; split <;> omega, fun j => by unfold vetW; split <;> split <;> omega⟩

set_option maxRecDepth 100000 in
theorem set0_at {n j : Nat} (hj : j < n) : ((madeCells #[.int .i64 0] n).setIfInBounds 0 (.int .i64 1)).getD j undef = .int .i64 (pluW j) := by
  have h := made_int n j hj
  have h' : (madeCells #[Value.int .i64 0] n).getD j undef = .int .i64 0 := h
  rw [Array.getD_eq_getD_getElem?] at h' ⊢
  rw [Array.getElem?_setIfInBounds]
  by_cases h0 : j = 0
  · subst h0
    rw [if_pos rfl, size_madeCells, if_pos hj]; rfl
  · rw [if_neg (by omega), h']
    simp [pluW, h0]

set_option maxRecDepth 100000 in
set_option maxHeartbeats 1000000 in
theorem plu_spec (w : World) (n : Nat) (n1 : 1 ≤ n) (n2 : n ≤ 5) :
    Calls Tryz.prog 174 #[.int .i64 n] w fun e w' => ∃ v, e = .returned v ∧ WrI w' w.heap.size v (rowL n pluW) ∧ Ext w w' := by
  have hin : inR (n : Int) 1 5 = true := inR_iff.2 (by omega)
  obtain ⟨i0, hi, hz0, hz1, hz2⟩ := info_parts info_int
  have hmk := fun W => run_make_rowN (P := Tryz.prog) 36 3 i0 _ Tryz.underlying36 hi hz0 .i64 .i64 n n (Nat.le_refl _) (by rw [hz2]; omega) (by omega) W
  rw [hz1, Nat.mul_one] at hmk
  have i1 : 0 < n := n1
  have m0 : (madeCells #[.int .i64 0] n)[0]? = some (.int .i64 0) := by
    have h := toList_madeCells_one (.int .i64 0) n
    have h2 : (madeCells #[Value.int .i64 0] n).toList[0]? = some (.int .i64 0) := by rw [h]; simp [i1]
    rw [Array.getElem?_toList] at h2
    exact h2
  go_enter Tryz.func174, Tryz.ntmps174
  go_wp2_with (go_at_call 69; refine (in_spec _ _ _ _).mono ?_; rintro e w1 ⟨rfl, hw1⟩)
  go_ret
  have hB := BlkF.new w1 ((madeCells #[.int .i64 0] n).setIfInBounds 0 (.int .i64 1)) 3
  rw [Array.size_setIfInBounds, size_madeCells] at hB
  refine ⟨_, rfl, hB.wrI (rowL_len _ _) (fun j x hx => ?_) hw1.size (Nat.le_refl _), hw1.trans (Ext.new _ _)⟩
  obtain ⟨hj, rfl⟩ := rowL_val hx
  exact set0_at hj

set_option maxRecDepth 100000 in
set_option maxHeartbeats 1000000 in
theorem wOk_spec (w : World) (a : Option Addr) (c n : Nat) (f : Nat → Int) (hR : RdI w a (rowL n f)) (n1 : 1 ≤ n) (n2 : n ≤ 5) (hf : GoodW f) :
    Calls Tryz.prog 212 #[.int .i64 n, .slice a n c] w fun e w' => e = .returned (.bool true) ∧ Ext w w' := by
  have HF := hide hf
  have hin : inR (n : Int) 1 5 = true := inR_iff.2 (by omega)
  clear hf
  go_enter Tryz.func212, Tryz.ntmps212
  go_wp2_with (go_at_call 69; refine (in_spec _ _ _ _).mono ?_; rintro e w1 ⟨rfl, hw1⟩)
  obtain ⟨W0, rfl⟩ : ∃ W0 : World, W0 = w1 := ⟨_, rfl⟩
  go_loopw [5, 6, 18] (fun _ _ i wr => ∃ k : Nat, k ≤ n ∧ i = .int .i64 k ∧ Ext w wr) (fun _ _ i _ => n - (intOf i).toNat)
  case atStart => exact ⟨0, Nat.zero_le _, rfl, hw1⟩
  case round =>
    obtain ⟨k, hk, rfl, hwr⟩ := hrel
    by_cases hlt : k < n
    · obtain ⟨b, off, rfl, c0⟩ := (hR.ext hwr).at_ (rowL_at (f := f) hlt)
      have e1 := HF.out.1 k
      have hin2 : inR (f k) 0 100 = true := inR_iff.2 e1
      by_cases h0 : k = 0
      · subst h0
        rw [Nat.add_zero] at c0
        go_wp2_with (go_at_call 69; refine (in_spec _ _ _ _).mono ?_; rintro e w1 ⟨rfl, hw1⟩; have c0 := Ext.keep (w' := w1) (by repeat (first | exact Ext.refl _ | assumption | refine Ext.alloc ?_ _ | refine Ext.drew ?_ | refine Ext.trans ?_ (by assumption))) c0)
        exact ⟨⟨1, by omega, by go_num, hwr.trans hw1⟩, by simp [intOf]; omega⟩
      · obtain ⟨m, hm⟩ : ∃ m : Nat, k = m + 1 := ⟨k - 1, by omega⟩
        subst hm
        obtain ⟨b2, off2, hb, c1⟩ := (hR.ext hwr).at_ (rowL_at (f := f) (show m < n by omega))
        injection hb with hb
        injection hb with hb hb2
        subst hb
        subst hb2
        have e3 : ¬ (f m < f (m + 1)) := by have := HF.out.2 m; omega
        have y1 : wrap64 ((m : Int) + 1 - 1) = m := by rw [IntWalk.wrap64_in _ (by omega)]; omega
        have i1 : (m : Int) + 1 < (n : Int) := by omega
        have i2 : (0 : Int) ≤ (m : Int) + 1 := by omega
        have i3 : ((m : Int) + 1).toNat = m + 1 := by omega
        have i4 : m < n := by omega
        have i5 : (0 : Int) < (m : Int) + 1 := by omega
        go_wp2_with (go_at_call 69; refine (in_spec _ _ _ _).mono ?_; rintro e w1 ⟨rfl, hw1⟩; have c0 := Ext.keep (w' := w1) (by repeat (first | exact Ext.refl _ | assumption | refine Ext.alloc ?_ _ | refine Ext.drew ?_ | refine Ext.trans ?_ (by assumption))) c0; have c1 := Ext.keep (w' := w1) (by repeat (first | exact Ext.refl _ | assumption | refine Ext.alloc ?_ _ | refine Ext.drew ?_ | refine Ext.trans ?_ (by assumption))) c1)
        exact ⟨⟨m + 2, by omega, by go_num, hwr.trans hw1⟩, by simp [intOf]; omega⟩
    · go_wp2
      go_ret
      exact ⟨rfl, hwr⟩

set_option maxRecDepth 100000 in
set_option maxHeartbeats 1000000 in
theorem l05Ok_spec (w : World) (sz : Int) (a aw : Option Addr) (c cw : Nat) (vs : List Vt) (f : Nat → Int) (n : Nat) (hz : sz = n) (hR : RdV w a vs) (hW : RdI w aw (rowL n f)) (hf : GoodW f) (h0 : profOk sz vs = true) :
    Calls Tryz.prog 195 #[.agg #[.int .i64 sz, .slice a vs.length c], .slice aw n cw] w fun e w' => e = .returned (.bool true) ∧ Ext w w' := by
  subst hz
  obtain ⟨m, hm, n1, n2⟩ := prof_nat h0
  have hnm : n = m := by omega
  rw [← hnm] at n1 n2
  clear hm hnm m
  have HF := hide hf
  clear hf
  have q0 := new0 w (.int .i64 n) [.slice a vs.length c] 29
  have q1 := new1 w (.int .i64 n) (.slice a vs.length c) [] 29
  go_enter Tryz.func195, Tryz.ntmps195
  go_wp2_with (first | (go_at_call 127; refine (prof_spec _ _ _ _ _ (hR.ext (by repeat (first | exact Ext.refl _ | assumption | refine Ext.alloc ?_ _ | refine Ext.drew ?_ | refine Ext.trans ?_ (by assumption))))).mono ?_; rintro e w1 ⟨rfl, hw1⟩; have q0 := Ext.keep (w' := w1) (by repeat (first | exact Ext.refl _ | assumption | refine Ext.alloc ?_ _ | refine Ext.drew ?_ | refine Ext.trans ?_ (by assumption))) q0; have q1 := Ext.keep (w' := w1) (by repeat (first | exact Ext.refl _ | assumption | refine Ext.alloc ?_ _ | refine Ext.drew ?_ | refine Ext.trans ?_ (by assumption))) q1) | (go_at_call 212; refine (wOk_spec _ aw cw n f (hW.ext (by repeat (first | exact Ext.refl _ | assumption | refine Ext.alloc ?_ _ | refine Ext.drew ?_ | refine Ext.trans ?_ (by assumption)))) n1 n2 HF.out).mono ?_; rintro e w1 ⟨rfl, hw1⟩; have q0 := Ext.keep (w' := w1) (by repeat (first | exact Ext.refl _ | assumption | refine Ext.alloc ?_ _ | refine Ext.drew ?_ | refine Ext.trans ?_ (by assumption))) q0; have q1 := Ext.keep (w' := w1) (by repeat (first | exact Ext.refl _ | assumption | refine Ext.alloc ?_ _ | refine Ext.drew ?_ | refine Ext.trans ?_ (by assumption))) q1))
  go_ret
  exact ⟨rfl, (by repeat (first | exact Ext.refl _ | assumption | refine Ext.alloc ?_ _ | refine Ext.drew ?_ | refine Ext.trans ?_ (by assumption)))⟩

set_option maxRecDepth 100000 in
set_option maxHeartbeats 4000000 in
theorem sco_spec (w : World) (sz : Int) (a aw : Option Addr) (c cw : Nat) (vs : List Vt) (f : Nat → Int) (n : Nat) (hz : sz = n) (hR : RdV w a vs) (hW : RdI w aw (rowL n f)) (hf : GoodW f) (h0 : profOk sz vs = true) :
    Calls Tryz.prog 196 #[.agg #[.int .i64 sz, .slice a vs.length c], .slice aw n cw] w fun e w' => ∃ v, e = .returned v ∧ WrI w' w.heap.size v (rowL n (scoV f vs)) ∧ Ext w w' := by
  subst hz
  obtain ⟨m, hm, n1, n2⟩ := prof_nat h0
  have hnm : n = m := by omega
  rw [← hnm] at n1 n2
  clear hm hnm m
  have HS := hide (prof_small h0)
  have HF := hide hf
  clear hf
  have hvl := (prof_small h0).1
  have q0 := new0 w (.int .i64 n) [.slice a vs.length c] 29
  have q1 := new1 w (.int .i64 n) (.slice a vs.length c) [] 29
  obtain ⟨i0, hi, hz0, hz1, hz2⟩ := info_parts info_int
  have hmk := fun W => run_make_rowN (P := Tryz.prog) 36 3 i0 _ Tryz.underlying36 hi hz0 .i64 .i64 n n (Nat.le_refl _) (by rw [hz2]; omega) (by omega) W
  rw [hz1, Nat.mul_one] at hmk
  go_enter Tryz.func196, Tryz.ntmps196
  go_wp2_with fail
  clear hmk
  have hw : Ext w (w.alloc (.cells #[.int .i64 n, .slice a vs.length c] 29)) := Ext.new _ _
  have hsz : (w.alloc (.cells #[.int .i64 n, .slice a vs.length c] 29)).heap.size = w.heap.size + 1 := by simp
  generalize w.alloc (.cells #[.int .i64 n, .slice a vs.length c] 29) = w1 at hw hsz q0 q1 ⊢
  rw [← hsz]
  clear hsz
  have hR0 := hR.ext hw
  have hW0 := hW.ext hw
  have hB := BlkF.new w1 (madeCells #[.int .i64 0] n) 3
  rw [size_madeCells] at hB
  have hB := hB.congr (f' := fun o => .int .i64 (scoV f (vs.take 0) o)) (fun o ho => by rw [show scoV f (vs.take 0) o = 0 by simp [scoV]]; exact made_int n o ho)
  have h20 := Ext.new w1 (.cells (madeCells #[.int .i64 0] n) 3)
  obtain ⟨wb, hwb⟩ : ∃ wb : World, wb = w1 := ⟨_, rfl⟩
  subst hwb
  have q0 := h20.keep q0
  have q1 := h20.keep q1
  generalize wb.alloc (.cells (madeCells #[.int .i64 0] n) 3) = W0 at hB h20 q0 q1 ⊢
  go_wp2_with fail
  go_loopw [7, 8, 9, 16, 21, 22, 23] (fun _ _ _ i _ _ _ wr => ∃ k : Nat, k ≤ vs.length ∧ i = .int .i64 k ∧ BlkF wr wb.heap.size n (fun o => .int .i64 (scoV f (vs.take k) o)) ∧ Ext wb wr) (fun _ _ _ i _ _ _ _ => vs.length - (intOf i).toNat)
  case atStart => exact ⟨0, Nat.zero_le _, rfl, hB, h20⟩
  case round =>
    clear hB h20
    obtain ⟨k, hk, rfl, hB, hwr⟩ := hrel
    by_cases hlt : k < vs.length
    · obtain ⟨x, hx⟩ := at_of_lt hlt
      obtain ⟨b, off, a', c', rfl, c0, c1, hc', hRx⟩ := hR0.at_ hx
      have c0 := hwr.keep c0
      have c1 := hwr.keep c1
      have hgl := hB.lt
      obtain ⟨x0, x1, x2⟩ := HS.out.2 x (List.mem_of_getElem? hx)
      have hxl := (rk_len x0).1
      have HX0 := hide x0
      have HX := hide hx
      clear hx x0
      have e0 := new0 wr (.slice a' x.1.length c') [.int .i64 x.2] 55
      have e1 := new1 wr (.slice a' x.1.length c') (.int .i64 x.2) [] 55
      have hlen : x.1.length = n := by omega
      rw [hlen] at c0 e0 e1 hc'
      clear hxl hlen
      have hBx := hB.ext (Ext.new wr (.cells #[.slice a' n c', .int .i64 x.2] 55))
      clear hB
      have hB := hBx.congr (f' := fun o => .int .i64 (scoT f vs k x 0 o)) (fun o ho => by
        obtain ⟨p, _, hpl, _⟩ := place_at HX0.out ho
        unfold scoT
        rw [hpl, if_neg (by omega)]; simp)
      clear hBx
      have hE := Ext.new wr (.cells #[.slice a' n c', .int .i64 x.2] 55)
      have c1' := HX.out
      go_wp2_with fail
      clear c0 c1 c1'
      generalize wr.alloc (.cells #[.slice a' n c', .int .i64 x.2] 55) = W1 at hB hE e0 e1 ⊢
      have hwr := hwr.trans hE
      clear hE
      go_loopw [8, 9, 23] (fun _ _ i w2 => ∃ m : Nat, m ≤ n ∧ i = .int .i64 m ∧ BlkF w2 wb.heap.size n (fun o => .int .i64 (scoT f vs k x m o)) ∧ Ext wb w2 ∧ w2.cell? ⟨wr.heap.size, 1, none⟩ = some (.int .i64 x.2)) (fun _ _ i _ => n - (intOf i).toNat)
      case atStart => exact ⟨0, Nat.zero_le _, rfl, hB, hwr, e1⟩
      case round =>
        clear hB hwr e1 e0
        obtain ⟨m, hm, rfl, hB, hwr2, e1⟩ := hrel
        by_cases hmt : m < n
        · obtain ⟨y, hy⟩ := at_of_lt (xs := x.1) (k := m) (by have := (rk_len HX0.out).1; omega)
          have hym := rk_mem HX0.out (List.mem_of_getElem? hy)
          obtain ⟨o, rfl⟩ : ∃ o : Nat, y = o := ⟨y.toNat, by omega⟩
          have ho : o < n := by omega
          obtain ⟨p, hp, hpl, hpa, hpu⟩ := place_at HX0.out ho
          have hpm : p = m := (hpu m hy).symm
          rw [hpm] at hpl hpa
          have hoth : ∀ o', o' < n → o' ≠ o → scoT f vs k x (m + 1) o' = scoT f vs k x m o' := fun o' ho' hne => by
            obtain ⟨p', _, hpl', hpa', _⟩ := place_at HX0.out ho'
            have hne2 : p' ≠ m := fun e => by rw [e, hy] at hpa'; injection hpa' with h; omega
            unfold scoT
            rw [hpl']
            by_cases h1 : p' < m
            · rw [if_pos (by omega), if_pos (by omega)]
            · rw [if_neg (by omega), if_neg (by omega)]
          have hat : scoT f vs k x m o = scoV f (vs.take k) o := by unfold scoT; rw [hpl, if_neg (by omega)]; simp
          have hnx : scoT f vs k x (m + 1) o = scoV f (vs.take k) o + x.2 * f m := by unfold scoT; rw [hpl, if_pos (by omega)]; simp
          obtain ⟨b2, off2, rfl, d2⟩ := (hRx.ext hwr2).at_ hy
          obtain ⟨b3, off3, rfl, d3⟩ := (hW0.ext hwr2).at_ (rowL_at (f := f) hmt)
          have d4 := hB.cell o ho
          rw [hat] at d4
          have z4 := hB.fr o
          obtain ⟨s1, s2⟩ := scoV_bd HS.out HF.out o k hk
          obtain ⟨s3, s4⟩ := wf_bd HF.out x1 x2 m
          have y1 : wrap64 (x.2 * f m) = x.2 * f m := IntWalk.wrap64_in _ (by omega)
          have y2 : IntKind.i64.wrap (x.2 * f m) = x.2 * f m := IntWalk.i64_in _ (by omega)
          have y3 : wrap64 (scoV f (vs.take k) o + x.2 * f m) = scoT f vs k x (m + 1) o := by rw [IntWalk.wrap64_in _ (by omega), hnx]
          have y4 : IntKind.i64.wrap (scoV f (vs.take k) o + x.2 * f m) = scoT f vs k x (m + 1) o := by rw [IntWalk.i64_left]; exact y3
          have HO := hide hoth
          have HB := hide hB
          clear hoth hB hat hnx hpl hpa hpu hpm s1 s2 s3 s4 hy hym
          go_wp2
          refine wp_region_X (by kernel_rfl) (by kernel_rfl) ?_
          repeat' (refine wpX_stepQ (fun K hK => ?_)
                   go_simp
                   try (rw [if_neg (by intro h; simp [undef] at h)])
                   try split
                   all_goals
                     first
                     | (refine hK _ ?_
                        clear hK K)
                     | (apply Exists.intro
                        refine ⟨fun wq hwq => ?_, hK _ ?_⟩
                        · have hcq := hwq.cellS
                          go_simp
                          first
                          | exact ⟨Ext.refl _, rfl⟩
                        clear hK K))
          refine wpX_stepL rfl (by kernel_rfl) (by kernel_rfl) (by kernel_rfl) (fun K hK wz hwz => ?_)
          have hcz := hwz.cellS
          have hfz := hwz.frozenS
          go_simp
          refine hK _ _ ?_
          clear hK K
          go_wp2
          refine ⟨⟨m + 1, by omega, by go_num, ((HB.out.ext hwz).set o ho _).congr (fun o' ho' => ?_), Ext.setCell (hwr2.trans hwz) (Nat.le_refl _) _, ?_⟩, by simp [intOf]; omega⟩
          · by_cases e : o' = o
            · subst e; rw [if_pos rfl]
            · rw [if_neg e, HO.out o' ho' e]
          · rw [World.cell?_setCell_other _ _ _ _ (by simp only [ne_eq, Addr.mk.injEq, not_and]; omega)]
            exact hwz.keep e1
        · have hmn : m = n := by omega
          go_wp2
          refine ⟨⟨k + 1, by omega, by go_num, hB.congr (fun o ho => ?_), hwr2⟩, by simp [intOf]; omega⟩
          obtain ⟨p, hp, hpl, _⟩ := place_at HX0.out ho
          rw [scoV_at HX.out, hmn]
          unfold scoT
          rw [hpl, if_pos (by omega)]
    · have hkl : k = vs.length := by omega
      go_wp2
      go_ret
      refine ⟨_, rfl, hB.wrI (rowL_len _ _) (fun j x hx => ?_) hw.size (Nat.le_refl _), hw.trans hwr⟩
      obtain ⟨hj, rfl⟩ := rowL_val hx
      rw [hkl, List.take_length]

def copeV (n : Nat) (vs : List Vt) (i : Nat) : Int := (cntN n (bt vs i) : Nat) - (cntN n (fun j => bt vs j i) : Nat)
def copeO (sz : Int) (vs : List Vt) : List Int := if profOk sz vs then rowL sz.toNat (copeV sz.toNat vs) else []
set_option maxRecDepth 100000 in
theorem copeO_len (sz : Int) (vs : List Vt) : (copeO sz vs).length ≤ 5 := by
  unfold copeO
  cases h0 : profOk sz vs
  · simp
  · obtain ⟨n, rfl, n1, n2⟩ := prof_nat h0
    simp [rowL_len]; omega

set_option maxRecDepth 100000 in
set_option maxHeartbeats 4000000 in
theorem cope_spec (w : World) (sz : Int) (a : Option Addr) (c : Nat) (vs : List Vt) (hR : RdV w a vs) :
    Calls Tryz.prog 178 #[.agg #[.int .i64 sz, .slice a vs.length c]] w fun e w' => ∃ v, e = .returned v ∧ OwnI w' w.heap.size v (copeO sz vs) ∧ Ext w w' := by
  have q0 := new0 w (.int .i64 sz) [.slice a vs.length c] 29
  have q1 := new1 w (.int .i64 sz) (.slice a vs.length c) [] 29
  cases h0 : profOk sz vs
  · go_enter Tryz.func178, Tryz.ntmps178
    go_wp2_with (go_at_call 127; refine (prof_spec _ _ _ _ _ (hR.ext (by repeat (first | exact Ext.refl _ | assumption | refine Ext.alloc ?_ _ | refine Ext.drew ?_ | refine Ext.trans ?_ (by assumption))))).mono ?_; rintro e w1 ⟨rfl, hw1⟩; have q0 := Ext.keep (w' := w1) (by repeat (first | exact Ext.refl _ | assumption | refine Ext.alloc ?_ _ | refine Ext.drew ?_ | refine Ext.trans ?_ (by assumption))) q0; have q1 := Ext.keep (w' := w1) (by repeat (first | exact Ext.refl _ | assumption | refine Ext.alloc ?_ _ | refine Ext.drew ?_ | refine Ext.trans ?_ (by assumption))) q1)
    go_ret
    exact ⟨_, rfl, by simp [copeO, h0]; exact OwnI.nil _ _, (by repeat (first | exact Ext.refl _ | assumption | refine Ext.alloc ?_ _ | refine Ext.drew ?_ | refine Ext.trans ?_ (by assumption)))⟩
  obtain ⟨n, rfl, n1, n2⟩ := prof_nat h0
  have HS := hide (prof_small h0)
  have hul : (upsL n vs).length = n := rowL_len _ _
  have hdl : (dnsL n vs).length = n := rowL_len _ _
  go_enter Tryz.func178, Tryz.ntmps178
  go_wp2_with (go_at_call 127; refine (prof_spec _ _ _ _ _ (hR.ext (by repeat (first | exact Ext.refl _ | assumption | refine Ext.alloc ?_ _ | refine Ext.drew ?_ | refine Ext.trans ?_ (by assumption))))).mono ?_; rintro e w1 ⟨rfl, hw1⟩; have q0 := Ext.keep (w' := w1) (by repeat (first | exact Ext.refl _ | assumption | refine Ext.alloc ?_ _ | refine Ext.drew ?_ | refine Ext.trans ?_ (by assumption))) q0; have q1 := Ext.keep (w' := w1) (by repeat (first | exact Ext.refl _ | assumption | refine Ext.alloc ?_ _ | refine Ext.drew ?_ | refine Ext.trans ?_ (by assumption))) q1)
  refine (sums_spec _ n a c vs (hR.ext (by repeat (first | exact Ext.refl _ | assumption | refine Ext.alloc ?_ _ | refine Ext.drew ?_ | refine Ext.trans ?_ (by assumption)))) HS.out n2).mono ?_
  rintro e w2 ⟨v1, v2, rfl, hv1, hv2, hw2⟩
  obtain ⟨a1, c1, rfl, _, hR1, _⟩ := hv1.fr
  obtain ⟨a2, c2, rfl, _, hR2, _⟩ := hv2.fr
  have hw : Ext w w2 := (by repeat (first | exact Ext.refl _ | assumption | refine Ext.alloc ?_ _ | refine Ext.drew ?_ | refine Ext.trans ?_ (by assumption)))
  rw [hdl, hul]
  clear hul hdl
  go_wp2_with fail
  have hO := OwnI.made0 w2
  have hsz := hw.size
  have h20 := Ext.new w2 (.cells #[] 3)
  obtain ⟨W0, hW0⟩ : ∃ W0 : World, W0 = w2.alloc (.cells #[] 3) := ⟨_, rfl⟩
  rw [← hW0] at hO h20 ⊢
  clear hW0
  go_loopw [5, 6, 18] (fun v _ i wr => ∃ k : Nat, k ≤ n ∧ i = .int .i64 k ∧ OwnI wr w2.heap.size v (rowL k (copeV n vs)) ∧ Ext w2 wr) (fun _ _ i _ => n - (intOf i).toNat)
  case atStart => exact ⟨0, Nat.zero_le _, rfl, hO, h20⟩
  case round =>
    clear h20 hO
    obtain ⟨i, hi, rfl, hown, hwr⟩ := hrel
    have hul := rowL_len i (copeV n vs)
    by_cases hit : i < n
    · obtain ⟨b1, off1, rfl, d1⟩ := (hR1.ext hwr).at_ (rowL_at (f := fun i => ((cntN n (bt vs i) : Nat) : Int)) hit)
      obtain ⟨b2, off2, rfl, d2⟩ := (hR2.ext hwr).at_ (rowL_at (f := fun j => ((cntN n (fun i => bt vs i j) : Nat) : Int)) hit)
      have l1 := cntN_le n (bt vs i)
      have l2 := cntN_le n (fun j => bt vs j i)
      have y1 : wrap64 (((cntN n (bt vs i) : Nat) : Int) - ((cntN n (fun j => bt vs j i) : Nat) : Int)) = copeV n vs i := by rw [IntWalk.wrap64_in _ (by omega)]; rfl
      have y2 : IntKind.i64.wrap (((cntN n (bt vs i) : Nat) : Int) - ((cntN n (fun j => bt vs j i) : Nat) : Int)) = copeV n vs i := by rw [IntWalk.i64_left]; exact y1
      generalize ((cntN n (bt vs i) : Nat) : Int) = x1 at d1 y1 y2
      generalize ((cntN n (fun j => bt vs j i) : Nat) : Int) = x2 at d2 y1 y2
      clear l1 l2
      go_wp2
      refine wp_region_X (by kernel_rfl) (by kernel_rfl) ?_
      repeat' (refine wpX_stepQ (fun K hK => ?_)
               go_simp
               try (rw [if_neg (by intro h; simp [undef] at h)])
               try split
               all_goals
                 first
                 | (refine hK _ ?_
                    clear hK K)
                 | (apply Exists.intro
                    refine ⟨fun wq hwq => ?_, hK _ ?_⟩
                    · have hcq := hwq.cellS
                      go_simp
                      first
                      | exact ⟨Ext.refl _, rfl⟩
                    clear hK K))
      refine wpX_stepS rfl (by kernel_rfl) (fun K hK wq hwq => ?_)
      go_simp
      refine ⟨(by repeat (first | exact Ext.refl _ | assumption | refine Ext.alloc ?_ _ | refine Ext.drew ?_ | refine Ext.trans ?_ (by assumption))), hK _ _ ?_⟩
      clear hK K
      refine wpX_stepC rfl (by kernel_rfl) (fun K hK wa hwa => ?_)
      refine Eq.mpr (if_pos rfl) ?_
      refine oper_appI w2 wa rfl _ _ rfl _ (rowL i (copeV n vs)) _ _ rfl (hown.ext (by repeat (first | exact Ext.refl _ | assumption | refine Ext.alloc ?_ _ | refine Ext.drew ?_ | refine Ext.trans ?_ (by assumption)))) (by repeat (first | exact Ext.refl _ | assumption | refine Ext.alloc ?_ _ | refine Ext.drew ?_ | refine Ext.trans ?_ (by assumption))) rfl (hwa.keep (new0 wq _ _ _)) (by omega) ?_
      intro v' w3 hown3 hw3
      refine hK _ _ ?_
      clear hK K
      repeat' (refine wpX_stepQ (fun K hK => ?_)
               go_simp
               try (rw [if_neg (by intro h; simp [undef] at h)])
               try split
               all_goals
                 first
                 | (refine hK _ ?_
                    clear hK K)
                 | (apply Exists.intro
                    refine ⟨fun wq hwq => ?_, hK _ ?_⟩
                    · have hcq := hwq.cellS
                      go_simp
                      first
                      | exact ⟨Ext.refl _, rfl⟩
                    clear hK K))
      refine wpX_nil (fun wz hwz => ?_)
      have hown3 := hown3.ext hwz
      go_wp2
      exact ⟨⟨i + 1, by omega, by go_num, by rw [rowL_succ]; exact hown3, (by repeat (first | exact Ext.refl _ | assumption | refine Ext.alloc ?_ _ | refine Ext.drew ?_ | refine Ext.trans ?_ (by assumption)))⟩, by simp [intOf]; omega⟩
    · have hin : i = n := by omega
      go_wp2
      go_ret
      refine ⟨_, rfl, ?_, hw.trans hwr⟩
      have he : copeO n vs = rowL i (copeV n vs) := by simp [copeO, h0, hin]
      rw [he]
      exact hown.base hsz

def sgnI (x y : Int) : Int := if x < y then -1 else if y < x then 1 else 0
set_option maxRecDepth 100000 in
set_option maxHeartbeats 1000000 in
theorem isnan_impl (w : World) (x : Int) : Calls Tryz.prog 138 #[.int .i64 x] w fun e w' => e = .returned (.bool false) ∧ Ext w w' := by
  go_enter Tryz.func138, Tryz.ntmps138
  go_wp2
  go_ret
  exact ⟨ret_bool (by simp), Ext.refl _⟩
set_option maxRecDepth 100000 in
set_option maxHeartbeats 1000000 in
theorem cmp_impl (w : World) (x y : Int) : Calls Tryz.prog 87 #[.int .i64 x, .int .i64 y] w fun e w' => e = .returned (.int .i64 (sgnI x y)) ∧ Ext w w' := by
  by_cases h1 : x < y
  · go_enter Tryz.func87, Tryz.ntmps87
    go_wp2_with (go_at_call 138; refine (isnan_impl _ _).mono ?_; rintro e w1 ⟨rfl, hw1⟩)
    go_ret
    exact ⟨ret_int (by simp [sgnI, h1]), (by repeat (first | exact Ext.refl _ | assumption | refine Ext.alloc ?_ _ | refine Ext.drew ?_ | refine Ext.trans ?_ (by assumption)))⟩
  · by_cases h2 : y < x
    · go_enter Tryz.func87, Tryz.ntmps87
      go_wp2_with (go_at_call 138; refine (isnan_impl _ _).mono ?_; rintro e w1 ⟨rfl, hw1⟩)
      go_ret
      exact ⟨ret_int (by simp [sgnI, h1, h2]), (by repeat (first | exact Ext.refl _ | assumption | refine Ext.alloc ?_ _ | refine Ext.drew ?_ | refine Ext.trans ?_ (by assumption)))⟩
    · go_enter Tryz.func87, Tryz.ntmps87
      go_wp2_with (go_at_call 138; refine (isnan_impl _ _).mono ?_; rintro e w1 ⟨rfl, hw1⟩)
      go_ret
      exact ⟨ret_int (by unfold sgnI; rw [if_neg (by omega), if_neg (by omega)]), (by repeat (first | exact Ext.refl _ | assumption | refine Ext.alloc ?_ _ | refine Ext.drew ?_ | refine Ext.trans ?_ (by assumption)))⟩

set_option maxRecDepth 100000 in
theorem sgn_margin (vs : List Vt) (i j : Nat) : sgnI (marginV vs i j) 0 = (if bt vs i j then 1 else 0) - (if bt vs j i then 1 else 0) := by
  unfold sgnI bt beatsV marginV
  by_cases h1 : pairV vs i j < pairV vs j i
  · have h2 : ¬ pairV vs j i < pairV vs i j := by omega
    rw [if_pos (by omega)]; simp [h1, h2]
  · by_cases h2 : pairV vs j i < pairV vs i j
    · rw [if_neg (by omega), if_pos (by omega)]; simp [h1, h2]
    · rw [if_neg (by omega), if_neg (by omega)]; simp [h1, h2]
set_option maxRecDepth 100000 in
theorem copeV_succ (m : Nat) (vs : List Vt) (i : Nat) : copeV (m + 1) vs i = copeV m vs i + sgnI (marginV vs i m) 0 := by
  unfold copeV
  rw [sgn_margin, cntN_succ, cntN_succ]
  cases bt vs i m <;> cases bt vs m i <;> simp <;> omega
set_option maxRecDepth 100000 in
theorem copeV_bd (m : Nat) (vs : List Vt) (i : Nat) : -(m : Int) ≤ copeV m vs i ∧ copeV m vs i ≤ m := by
  have h1 := cntN_le m (bt vs i)
  have h2 := cntN_le m (fun j => bt vs j i)
  unfold copeV
  omega
def tabC (n : Nat) (vs : List Vt) (i m o : Nat) : Int := if o < i then copeV n vs o else if o = i then copeV m vs i else 0
set_option maxRecDepth 100000 in
theorem tabC_zero (n : Nat) (vs : List Vt) (o : Nat) : tabC n vs 0 0 o = 0 := by
  unfold tabC; rw [if_neg (by omega)]; split <;> simp [copeV, cntN]
set_option maxRecDepth 100000 in
theorem tabC_at (n : Nat) (vs : List Vt) (i m : Nat) : tabC n vs i m i = copeV m vs i := by
  unfold tabC; rw [if_neg (by omega), if_pos rfl]
set_option maxRecDepth 100000 in
theorem tabC_far (n : Nat) (vs : List Vt) (i m m' : Nat) {o : Nat} (h : o ≠ i) : tabC n vs i m o = tabC n vs i m' o := by
  unfold tabC; rw [if_neg h, if_neg h]
set_option maxRecDepth 100000 in
theorem tabC_done (n : Nat) (vs : List Vt) (i o : Nat) : tabC n vs i n o = tabC n vs (i + 1) 0 o := by
  unfold tabC
  by_cases h1 : o < i
  · rw [if_pos h1, if_pos (by omega)]
  · by_cases h2 : o = i
    · subst h2; rw [if_neg h1, if_pos rfl, if_pos (by omega)]
    · rw [if_neg h1, if_neg h2, if_neg (by omega)]; split <;> simp [copeV, cntN]

set_option maxRecDepth 100000 in
set_option maxHeartbeats 4000000 in
theorem cope_impl (w : World) (sz : Int) (a : Option Addr) (c : Nat) (vs : List Vt) (hR : RdV w a vs) :
    Calls Tryz.prog 42 #[.agg #[.int .i64 sz, .slice a vs.length c]] w fun e w' => ∃ v, e = .returned v ∧ WrI w' w.heap.size v (copeO sz vs) ∧ Ext w w' := by
  have q0 := new0 w (.int .i64 sz) [.slice a vs.length c] 29
  have q1 := new1 w (.int .i64 sz) (.slice a vs.length c) [] 29
  cases h0 : profOk sz vs
  · go_enter Tryz.func42, Tryz.ntmps42
    go_wp2_with (go_at_call 36; refine (prof_impl _ _ _ _ _ (hR.ext (by repeat (first | exact Ext.refl _ | assumption | refine Ext.alloc ?_ _ | refine Ext.drew ?_ | refine Ext.trans ?_ (by assumption))))).mono ?_; rintro e w1 ⟨rfl, hw1⟩; have q0 := Ext.keep (w' := w1) (by repeat (first | exact Ext.refl _ | assumption | refine Ext.alloc ?_ _ | refine Ext.drew ?_ | refine Ext.trans ?_ (by assumption))) q0; have q1 := Ext.keep (w' := w1) (by repeat (first | exact Ext.refl _ | assumption | refine Ext.alloc ?_ _ | refine Ext.drew ?_ | refine Ext.trans ?_ (by assumption))) q1)
    go_ret
    exact ⟨_, rfl, by simp [copeO, h0]; exact WrI.nil _ _ _ _, (by repeat (first | exact Ext.refl _ | assumption | refine Ext.alloc ?_ _ | refine Ext.drew ?_ | refine Ext.trans ?_ (by assumption)))⟩
  obtain ⟨n, rfl, n1, n2⟩ := prof_nat h0
  have HS := hide (prof_small h0)
  obtain ⟨i0, hi, hz0, hz1, hz2⟩ := info_parts info_int
  have hmk := fun W => run_make_rowN (P := Tryz.prog) 36 3 i0 _ Tryz.underlying36 hi hz0 .i64 .i64 n n (Nat.le_refl _) (by rw [hz2]; omega) (by omega) W
  rw [hz1, Nat.mul_one] at hmk
  go_enter Tryz.func42, Tryz.ntmps42
  go_wp2_with (go_at_call 36; refine (prof_impl _ _ _ _ _ (hR.ext (by repeat (first | exact Ext.refl _ | assumption | refine Ext.alloc ?_ _ | refine Ext.drew ?_ | refine Ext.trans ?_ (by assumption))))).mono ?_; rintro e w1 ⟨rfl, hw1⟩; have q0 := Ext.keep (w' := w1) (by repeat (first | exact Ext.refl _ | assumption | refine Ext.alloc ?_ _ | refine Ext.drew ?_ | refine Ext.trans ?_ (by assumption))) q0; have q1 := Ext.keep (w' := w1) (by repeat (first | exact Ext.refl _ | assumption | refine Ext.alloc ?_ _ | refine Ext.drew ?_ | refine Ext.trans ?_ (by assumption))) q1)
  clear hmk
  have hw : Ext w w1 := (by repeat (first | exact Ext.refl _ | assumption | refine Ext.alloc ?_ _ | refine Ext.drew ?_ | refine Ext.trans ?_ (by assumption)))
  have hR0 := hR.ext hw
  have hB := BlkF.new w1 (madeCells #[.int .i64 0] n) 3
  rw [size_madeCells] at hB
  have hB := hB.congr (f' := fun o => .int .i64 (tabC n vs 0 0 o)) (fun o ho => by rw [tabC_zero]; exact made_int n o ho)
  have h20 := Ext.new w1 (.cells (madeCells #[.int .i64 0] n) 3)
  generalize w1.alloc (.cells (madeCells #[.int .i64 0] n) 3) = W0 at hB h20 ⊢
  obtain ⟨wb, hwb⟩ : ∃ wb : World, wb = w1 := ⟨_, rfl⟩
  subst hwb
  go_loopw [4, 5, 14, 18, 19] (fun _ _ i _ _ wr => ∃ k : Nat, k ≤ n ∧ i = .int .i64 k ∧ BlkF wr wb.heap.size n (fun o => .int .i64 (tabC n vs k 0 o)) ∧ Ext wb wr) (fun _ _ i _ _ _ => n - (intOf i).toNat)
  case atStart => exact ⟨0, Nat.zero_le _, rfl, hB, h20⟩
  case round =>
    clear hB h20
    obtain ⟨i, hi, rfl, hB, hwr⟩ := hrel
    have r0 := hwr.keep q0
    by_cases hit : i < n
    · go_wp2
      go_loopw [5, 19] (fun _ m wr => ∃ k : Nat, k ≤ n ∧ m = .int .i64 k ∧ BlkF wr wb.heap.size n (fun o => .int .i64 (tabC n vs i k o)) ∧ Ext wb wr) (fun _ m _ => n - (intOf m).toNat)
      case atStart => exact ⟨0, Nat.zero_le _, rfl, hB, hwr⟩
      case round =>
        clear hB hwr r0
        obtain ⟨m, hm, rfl, hB, hwr⟩ := hrel
        have r0 := hwr.keep q0
        have r1 := hwr.keep q1
        by_cases hlt : m < n
        · have d0 := hB.cell i hit
          rw [tabC_at] at d0
          have z0 := hB.fr i
          have b1 := copeV_bd m vs i
          have b2 := copeV_bd (m + 1) vs i
          have y1 : wrap64 (copeV m vs i + sgnI (marginV vs i m) 0) = copeV (m + 1) vs i := by rw [← copeV_succ, IntWalk.wrap64_in _ (by omega)]
          have y2 : IntKind.i64.wrap (copeV m vs i + sgnI (marginV vs i m) 0) = copeV (m + 1) vs i := by rw [IntWalk.i64_left]; exact y1
          clear b1 b2
          have HB := hide hB
          clear hB
          go_wp2
          refine wp_region_X (by kernel_rfl) (by kernel_rfl) ?_
          repeat' (refine wpX_stepQ (fun K hK => ?_)
                   go_simp
                   try (rw [if_neg (by intro h; simp [undef] at h)])
                   try split
                   all_goals
                     first
                     | (refine hK _ ?_
                        clear hK K)
                     | (apply Exists.intro
                        refine ⟨fun wq hwq => ?_, hK _ ?_⟩
                        · have hcq := hwq.cellS
                          go_simp
                          first
                          | exact ⟨Ext.refl _, rfl⟩
                          | exact ⟨Ext.refl _, margin_impl _ _ _ _ _ _ _ (hR0.ext (by repeat (first | exact Ext.refl _ | assumption | refine Ext.alloc ?_ _ | refine Ext.drew ?_ | refine Ext.trans ?_ (by assumption)))) HS.out⟩
                          | exact ⟨Ext.refl _, cmp_impl _ _ _⟩
                        clear hK K))
          refine wpX_stepL rfl (by kernel_rfl) (by kernel_rfl) (by kernel_rfl) (fun K hK wz hwz => ?_)
          have hcz := hwz.cellS
          have hfz := hwz.frozenS
          go_simp
          refine hK _ _ ?_
          clear hK K
          go_wp2
          refine ⟨⟨m + 1, by omega, by go_num, ((HB.out.ext hwz).set i hit _).congr (fun o _ => ?_), Ext.setCell (Ext.trans hwr hwz) (Nat.le_refl _) _⟩, by simp [intOf]; omega⟩
          by_cases e : o = i
          · subst e; rw [if_pos rfl, tabC_at]
          · rw [if_neg e, tabC_far n vs i m (m + 1) e]
        · have hmn : m = n := by omega
          go_wp2
          exact ⟨⟨i + 1, by omega, by go_num, hB.congr (fun o _ => by rw [hmn, tabC_done]), hwr⟩, by simp [intOf]; omega⟩
    · have hin : i = n := by omega
      go_wp2
      go_ret
      have he : copeO n vs = rowL n (copeV n vs) := by simp [copeO, h0]
      rw [he]
      refine ⟨_, rfl, hB.wrI (rowL_len _ _) (fun j x hx => ?_) hw.size (Nat.le_refl _), hw.trans hwr⟩
      obtain ⟨hj, rfl⟩ := rowL_val hx
      simp only [tabC, hin, if_pos hj]

set_option maxRecDepth 100000 in
theorem wpList_appAll {ops : Array Oper} {rest : List Oper} {o : Oper} {a : Act} {Q : Exit → Act → World → Prop} (B : Nat) (w3 : World) (hgd : o.guard = none) (s x : Operand)
    (ho : o.op = .call { callee := .builtin .append, args := #[s, x], argTypes := #[36, 36] }) (v : Value) (xs ys : List Int) (hs : a.eval s = v) (hown : OwnI w3 B v xs) (hB : B ≤ w3.heap.size)
    (b off n c : Nat) (hn : n = ys.length) (hx : a.eval x = .slice (some ⟨b, off, none⟩) n c) (hR : RdI w3 (some ⟨b, off, none⟩) ys) (hlen : xs.length + ys.length ≤ 2000000)
    (h : ∀ v' w', OwnI w' B v' (xs ++ ys) → w3.grownBy w' v.ownBlock → wpList Tryz.prog ops Q rest (a.put o.dst v') w') : wpList Tryz.prog ops Q (o :: rest) a w3 := by
  obtain ⟨i0, hi, hz0, hz1, hz2⟩ := info_parts info_int
  subst hn
  obtain ⟨v', w', hr, h1, h2, _⟩ := run_append_own (P := Tryz.prog) w3 B 36 o.type 3 i0 (.int .i64 0) 1 8 Tryz.underlying36 hi hz0 hz1 hz2 rfl (by decide) v xs.length _ hown ⟨b, off, none⟩ ys.length c (ys.map (Value.int .i64)) (by simp)
    (fun j u hj => by
      rw [List.getElem?_map, Option.map_eq_some_iff] at hj
      obtain ⟨y, hy, rfl⟩ := hj
      obtain ⟨b', off', e, hc⟩ := hR.at_ hy
      injection e with e
      injection e with e1 e2
      subst e1 e2
      by_cases hj0 : j = 0
      · subst hj0
        simpa [Addr.add] using hc
      · simpa [Addr.add, hj0] using hc)
    (fun u hu => by
      obtain ⟨y, _, rfl⟩ := List.mem_map.1 hu
      rfl) (by unfold maxLen; omega) (by omega) hB
  refine wpList_plain hgd fun K hK => ?_
  unfold Oper.wp execOp
  simp only [ho, resolve, invoke, builtin, Sem.run_bind, Sem.run_pure, Result.andThen_ok, List.map_toArray, List.map_cons, List.map_nil, hs, hx, hr]
  refine hK _ _ (h v' w' ?_ h2)
  unfold OwnI
  rw [List.map_append, List.length_append]
  exact h1

end Go.Proofs.YtilcdnkkabmbfaaGreat
