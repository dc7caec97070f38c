/- Copeland's scores. -/
import Derived.Test.YtccoamiblmobhaaCond
namespace Go.Proofs.Ytccoamiblmobhaa
open Go.RowKit

def copeV (n : Nat) (vs : List Vt) (i : Nat) : Int := (cntN n (bt vs i) : Nat) - (cntN n (fun j => bt vs j i) : Nat)
def copeO (sz : Int) (vs : List Vt) : List Int := if profOk sz vs then rowL sz.toNat (copeV sz.toNat vs) else []
theorem copeO_len (sz : Int) (vs : List Vt) : (copeO sz vs).length ≤ 5 := by
  unfold copeO
  cases h0 : profOk sz vs
  · simp
  · obtain ⟨n, rfl, n1, n2⟩ := prof_nat h0
    simp [rowL_len]; omega

set_option maxHeartbeats 4000000 in
theorem cope_spec (w : World) (sz : Int) (a : Option Addr) (c : Nat) (vs : List Vt) (hR : RdV w a vs) :
    Calls Try.prog 43 #[.agg #[.int .i64 sz, .slice a vs.length c]] w fun e w' => ∃ v, e = .returned v ∧ OwnI w' w.heap.size v (copeO sz vs) ∧ Ext w w' := by
  have q0 := new0 w (.int .i64 sz) [.slice a vs.length c] 29
  have q1 := new1 w (.int .i64 sz) (.slice a vs.length c) [] 29
  cases h0 : profOk sz vs
  · go_enter Try.func43, Try.ntmps43
    go_wp2_with (go_at_call 50; refine (prof_spec _ _ _ _ _ (hR.ext (by repeat (first | exact Ext.refl _ | assumption | refine Ext.alloc ?_ _ | refine Ext.drew ?_ | refine Ext.trans ?_ (by assumption))))).mono ?_; rintro e w1 ⟨rfl, hw1⟩; have q0 := Ext.keep (w' := w1) (by repeat (first | exact Ext.refl _ | assumption | refine Ext.alloc ?_ _ | refine Ext.drew ?_ | refine Ext.trans ?_ (by assumption))) q0; have q1 := Ext.keep (w' := w1) (by repeat (first | exact Ext.refl _ | assumption | refine Ext.alloc ?_ _ | refine Ext.drew ?_ | refine Ext.trans ?_ (by assumption))) q1)
    go_ret
    exact ⟨_, rfl, by simp [copeO, h0]; exact OwnI.nil _ _, (by repeat (first | exact Ext.refl _ | assumption | refine Ext.alloc ?_ _ | refine Ext.drew ?_ | refine Ext.trans ?_ (by assumption)))⟩
  obtain ⟨n, rfl, n1, n2⟩ := prof_nat h0
  have HS := hide (prof_small h0)
  have hul : (upsL n vs).length = n := rowL_len _ _
  have hdl : (dnsL n vs).length = n := rowL_len _ _
  go_enter Try.func43, Try.ntmps43
  go_wp2_with (go_at_call 50; refine (prof_spec _ _ _ _ _ (hR.ext (by repeat (first | exact Ext.refl _ | assumption | refine Ext.alloc ?_ _ | refine Ext.drew ?_ | refine Ext.trans ?_ (by assumption))))).mono ?_; rintro e w1 ⟨rfl, hw1⟩; have q0 := Ext.keep (w' := w1) (by repeat (first | exact Ext.refl _ | assumption | refine Ext.alloc ?_ _ | refine Ext.drew ?_ | refine Ext.trans ?_ (by assumption))) q0; have q1 := Ext.keep (w' := w1) (by repeat (first | exact Ext.refl _ | assumption | refine Ext.alloc ?_ _ | refine Ext.drew ?_ | refine Ext.trans ?_ (by assumption))) q1)
  refine (sums_spec _ n a c vs (hR.ext (by repeat (first | exact Ext.refl _ | assumption | refine Ext.alloc ?_ _ | refine Ext.drew ?_ | refine Ext.trans ?_ (by assumption)))) HS.out n2).mono ?_
  rintro e w2 ⟨v1, v2, rfl, hv1, hv2, hw2⟩
  obtain ⟨a1, c1, rfl, _, hR1, _⟩ := hv1.fr
  obtain ⟨a2, c2, rfl, _, hR2, _⟩ := hv2.fr
  have hw : Ext w w2 := (by repeat (first | exact Ext.refl _ | assumption | refine Ext.alloc ?_ _ | refine Ext.drew ?_ | refine Ext.trans ?_ (by assumption)))
  rw [hdl, hul]
  clear hul hdl
  go_wp2_with fail
  have hO := OwnI.made0 w2
  have hsz := hw.size
  have h20 := Ext.new w2 (.cells #[] 3)
  obtain ⟨W0, hW0⟩ : ∃ W0 : World, W0 = w2.alloc (.cells #[] 3) := ⟨_, rfl⟩
  rw [← hW0] at hO h20 ⊢
  clear hW0
  go_loopw [5, 6, 18] (fun v _ i wr => ∃ k : Nat, k ≤ n ∧ i = .int .i64 k ∧ OwnI wr w2.heap.size v (rowL k (copeV n vs)) ∧ Ext w2 wr) (fun _ _ i _ => n - (intOf i).toNat)
  case atStart => exact ⟨0, Nat.zero_le _, rfl, hO, h20⟩
  case round =>
    clear h20 hO
    obtain ⟨i, hi, rfl, hown, hwr⟩ := hrel
    have hul := rowL_len i (copeV n vs)
    by_cases hit : i < n
    · obtain ⟨b1, off1, rfl, d1⟩ := (hR1.ext hwr).at_ (rowL_at (f := fun i => ((cntN n (bt vs i) : Nat) : Int)) hit)
      obtain ⟨b2, off2, rfl, d2⟩ := (hR2.ext hwr).at_ (rowL_at (f := fun j => ((cntN n (fun i => bt vs i j) : Nat) : Int)) hit)
      have l1 := cntN_le n (bt vs i)
      have l2 := cntN_le n (fun j => bt vs j i)
      have y1 : wrap64 (((cntN n (bt vs i) : Nat) : Int) - ((cntN n (fun j => bt vs j i) : Nat) : Int)) = copeV n vs i := by rw [IntWalk.wrap64_in _ (by omega)]; rfl
      have y2 : IntKind.i64.wrap (((cntN n (bt vs i) : Nat) : Int) - ((cntN n (fun j => bt vs j i) : Nat) : Int)) = copeV n vs i := by rw [IntWalk.i64_left]; exact y1
      generalize ((cntN n (bt vs i) : Nat) : Int) = x1 at d1 y1 y2
      generalize ((cntN n (fun j => bt vs j i) : Nat) : Int) = x2 at d2 y1 y2
      clear l1 l2
      go_wp2
      refine wp_region_X (by kernel_rfl) (by kernel_rfl) ?_
      repeat' (refine wpX_stepQ (fun K hK => ?_)
               go_simp
               try (rw [if_neg (by intro h; simp [undef] at h)])
               try split
               all_goals
                 first
                 | (refine hK _ ?_
                    clear hK K)
                 | (apply Exists.intro
                    refine ⟨fun wq hwq => ?_, hK _ ?_⟩
                    · have hcq := hwq.cellS
                      go_simp
                      first
                      | exact ⟨Ext.refl _, rfl⟩
                    clear hK K))
      refine wpX_stepS rfl (by kernel_rfl) (fun K hK wq hwq => ?_)
      go_simp
      refine ⟨(by repeat (first | exact Ext.refl _ | assumption | refine Ext.alloc ?_ _ | refine Ext.drew ?_ | refine Ext.trans ?_ (by assumption))), hK _ _ ?_⟩
      clear hK K
      refine wpX_stepC rfl (by kernel_rfl) (fun K hK wa hwa => ?_)
      refine Eq.mpr (if_pos rfl) ?_
      refine oper_appI w2 wa rfl _ _ rfl _ (rowL i (copeV n vs)) _ _ rfl (hown.ext (by repeat (first | exact Ext.refl _ | assumption | refine Ext.alloc ?_ _ | refine Ext.drew ?_ | refine Ext.trans ?_ (by assumption)))) (by repeat (first | exact Ext.refl _ | assumption | refine Ext.alloc ?_ _ | refine Ext.drew ?_ | refine Ext.trans ?_ (by assumption))) rfl (hwa.keep (new0 wq _ _ _)) (by omega) ?_
      intro v' w3 hown3 hw3
      refine hK _ _ ?_
      clear hK K
      repeat' (refine wpX_stepQ (fun K hK => ?_)
               go_simp
               try (rw [if_neg (by intro h; simp [undef] at h)])
               try split
               all_goals
                 first
                 | (refine hK _ ?_
                    clear hK K)
                 | (apply Exists.intro
                    refine ⟨fun wq hwq => ?_, hK _ ?_⟩
                    · have hcq := hwq.cellS
                      go_simp
                      first
                      | exact ⟨Ext.refl _, rfl⟩
                    clear hK K))
      refine wpX_nil (fun wz hwz => ?_)
      have hown3 := hown3.ext hwz
      go_wp2
      exact ⟨⟨i + 1, by omega, by go_num, by rw [rowL_succ]; exact hown3, (by repeat (first | exact Ext.refl _ | assumption | refine Ext.alloc ?_ _ | refine Ext.drew ?_ | refine Ext.trans ?_ (by assumption)))⟩, by simp [intOf]; omega⟩
    · have hin : i = n := by omega
      go_wp2
      go_ret
      refine ⟨_, rfl, ?_, hw.trans hwr⟩
      have he : copeO n vs = rowL i (copeV n vs) := by simp [copeO, h0, hin]
      rw [he]
      exact hown.base hsz

def sgnI (x y : Int) : Int := if x < y then -1 else if y < x then 1 else 0
set_option maxHeartbeats 1000000 in
theorem isnan_impl (w : World) (x : Int) : Calls Try.prog 93 #[.int .i64 x] w fun e w' => e = .returned (.bool false) ∧ Ext w w' := by
  go_enter Try.func93, Try.ntmps93
  go_wp2
  go_ret
  exact ⟨ret_bool (by simp), Ext.refl _⟩
set_option maxHeartbeats 1000000 in
theorem cmp_impl (w : World) (x y : Int) : Calls Try.prog 73 #[.int .i64 x, .int .i64 y] w fun e w' => e = .returned (.int .i64 (sgnI x y)) ∧ Ext w w' := by
  by_cases h1 : x < y
  · go_enter Try.func73, Try.ntmps73
    go_wp2_with (go_at_call 93; refine (isnan_impl _ _).mono ?_; rintro e w1 ⟨rfl, hw1⟩)
    go_ret
    exact ⟨ret_int (by simp [sgnI, h1]), (by repeat (first | exact Ext.refl _ | assumption | refine Ext.alloc ?_ _ | refine Ext.drew ?_ | refine Ext.trans ?_ (by assumption)))⟩
  · by_cases h2 : y < x
    · go_enter Try.func73, Try.ntmps73
      go_wp2_with (go_at_call 93; refine (isnan_impl _ _).mono ?_; rintro e w1 ⟨rfl, hw1⟩)
      go_ret
      exact ⟨ret_int (by simp [sgnI, h1, h2]), (by repeat (first | exact Ext.refl _ | assumption | refine Ext.alloc ?_ _ | refine Ext.drew ?_ | refine Ext.trans ?_ (by assumption)))⟩
    · go_enter Try.func73, Try.ntmps73
      go_wp2_with (go_at_call 93; refine (isnan_impl _ _).mono ?_; rintro e w1 ⟨rfl, hw1⟩)
      go_ret
      exact ⟨ret_int (by unfold sgnI; rw [if_neg (by omega), if_neg (by omega)]), (by repeat (first | exact Ext.refl _ | assumption | refine Ext.alloc ?_ _ | refine Ext.drew ?_ | refine Ext.trans ?_ (by assumption)))⟩

theorem sgn_margin (vs : List Vt) (i j : Nat) : sgnI (marginV vs i j) 0 = (if bt vs i j then 1 else 0) - (if bt vs j i then 1 else 0) := by
  unfold sgnI bt beatsV marginV
  by_cases h1 : pairV vs i j < pairV vs j i
  · have h2 : ¬ pairV vs j i < pairV vs i j := by omega
    rw [if_pos (by omega)]; simp [h1, h2]
  · by_cases h2 : pairV vs j i < pairV vs i j
    · rw [if_neg (by omega), if_pos (by omega)]; simp [h1, h2]
    · rw [if_neg (by omega), if_neg (by omega)]; simp [h1, h2]
theorem copeV_succ (m : Nat) (vs : List Vt) (i : Nat) : copeV (m + 1) vs i = copeV m vs i + sgnI (marginV vs i m) 0 := by
  unfold copeV
  rw [sgn_margin, cntN_succ, cntN_succ]
  cases bt vs i m <;> cases bt vs m i <;> simp <;> omega
theorem copeV_bd (m : Nat) (vs : List Vt) (i : Nat) : -(m : Int) ≤ copeV m vs i ∧ copeV m vs i ≤ m := by
  have h1 := cntN_le m (bt vs i)
  have h2 := cntN_le m (fun j => bt vs j i)
  unfold copeV
  omega
def tabC (n : Nat) (vs : List Vt) (i m o : Nat) : Int := if o < i then copeV n vs o else if o = i then copeV m vs i else 0
theorem tabC_zero (n : Nat) (vs : List Vt) (o : Nat) : tabC n vs 0 0 o = 0 := by
  unfold tabC; rw [if_neg (by omega)]; split <;> simp [copeV, cntN]
theorem tabC_at (n : Nat) (vs : List Vt) (i m : Nat) : tabC n vs i m i = copeV m vs i := by
  unfold tabC; rw [if_neg (by omega), if_pos rfl]
theorem tabC_far (n : Nat) (vs : List Vt) (i m m' : Nat) {o : Nat} (h : o ≠ i) : tabC n vs i m o = tabC n vs i m' o := by
  unfold tabC; rw [if_neg h, if_neg h]
theorem tabC_done (n : Nat) (vs : List Vt) (i o : Nat) : tabC n vs i n o = tabC n vs (i + 1) 0 o := by
  unfold tabC
  by_cases h1 : o < i
  · rw [if_pos h1, if_pos (by omega)]
  · by_cases h2 : o = i
    · subst h2; rw [if_neg h1, if_pos rfl, if_pos (by omega)]
    · rw [if_neg h1, if_neg h2, if_neg (by omega)]; split <;> simp [copeV, cntN]

set_option maxRecDepth 100000 in
set_option maxHeartbeats 4000000 in
theorem cope_impl (w : World) (sz : Int) (a : Option Addr) (c : Nat) (vs : List Vt) (hR : RdV w a vs) :
    Calls Try.prog 44 #[.agg #[.int .i64 sz, .slice a vs.length c]] w fun e w' => ∃ v, e = .returned v ∧ WrI w' w.heap.size v (copeO sz vs) ∧ Ext w w' := by
  have q0 := new0 w (.int .i64 sz) [.slice a vs.length c] 29
  have q1 := new1 w (.int .i64 sz) (.slice a vs.length c) [] 29
  cases h0 : profOk sz vs
  · go_enter Try.func44, Try.ntmps44
    go_wp2_with (go_at_call 54; refine (prof_impl _ _ _ _ _ (hR.ext (by repeat (first | exact Ext.refl _ | assumption | refine Ext.alloc ?_ _ | refine Ext.drew ?_ | refine Ext.trans ?_ (by assumption))))).mono ?_; rintro e w1 ⟨rfl, hw1⟩; have q0 := Ext.keep (w' := w1) (by repeat (first | exact Ext.refl _ | assumption | refine Ext.alloc ?_ _ | refine Ext.drew ?_ | refine Ext.trans ?_ (by assumption))) q0; have q1 := Ext.keep (w' := w1) (by repeat (first | exact Ext.refl _ | assumption | refine Ext.alloc ?_ _ | refine Ext.drew ?_ | refine Ext.trans ?_ (by assumption))) q1)
    go_ret
    exact ⟨_, rfl, by simp [copeO, h0]; exact WrI.nil _ _ _ _, (by repeat (first | exact Ext.refl _ | assumption | refine Ext.alloc ?_ _ | refine Ext.drew ?_ | refine Ext.trans ?_ (by assumption)))⟩
  obtain ⟨n, rfl, n1, n2⟩ := prof_nat h0
  have HS := hide (prof_small h0)
  obtain ⟨i0, hi, hz0, hz1, hz2⟩ := info_parts info_int
  have hmk := fun W => run_make_rowN (P := Try.prog) 37 3 i0 _ Try.underlying37 hi hz0 .i64 .i64 n n (Nat.le_refl _) (by rw [hz2]; omega) (by omega) W
  rw [hz1, Nat.mul_one] at hmk
  go_enter Try.func44, Try.ntmps44
  go_wp2_with (go_at_call 54; refine (prof_impl _ _ _ _ _ (hR.ext (by repeat (first | exact Ext.refl _ | assumption | refine Ext.alloc ?_ _ | refine Ext.drew ?_ | refine Ext.trans ?_ (by assumption))))).mono ?_; rintro e w1 ⟨rfl, hw1⟩; have q0 := Ext.keep (w' := w1) (by repeat (first | exact Ext.refl _ | assumption | refine Ext.alloc ?_ _ | refine Ext.drew ?_ | refine Ext.trans ?_ (by assumption))) q0; have q1 := Ext.keep (w' := w1) (by repeat (first | exact Ext.refl _ | assumption | refine Ext.alloc ?_ _ | refine Ext.drew ?_ | refine Ext.trans ?_ (by assumption))) q1)
  clear hmk
  have hw : Ext w w1 := (by repeat (first | exact Ext.refl _ | assumption | refine Ext.alloc ?_ _ | refine Ext.drew ?_ | refine Ext.trans ?_ (by assumption)))
  have hR0 := hR.ext hw
  have hB := BlkF.new w1 (madeCells #[.int .i64 0] n) 3
  rw [size_madeCells] at hB
  have hB := hB.congr (f' := fun o => .int .i64 (tabC n vs 0 0 o)) (fun o ho => by rw [tabC_zero]; exact made_int n o ho)
  have h20 := Ext.new w1 (.cells (madeCells #[.int .i64 0] n) 3)
  generalize w1.alloc (.cells (madeCells #[.int .i64 0] n) 3) = W0 at hB h20 ⊢
  obtain ⟨wb, hwb⟩ : ∃ wb : World, wb = w1 := ⟨_, rfl⟩
  subst hwb
  go_loopw [4, 5, 14, 18, 19] (fun _ _ i _ _ wr => ∃ k : Nat, k ≤ n ∧ i = .int .i64 k ∧ BlkF wr wb.heap.size n (fun o => .int .i64 (tabC n vs k 0 o)) ∧ Ext wb wr) (fun _ _ i _ _ _ => n - (intOf i).toNat)
  case atStart => exact ⟨0, Nat.zero_le _, rfl, hB, h20⟩
  case round =>
    clear hB h20
    obtain ⟨i, hi, rfl, hB, hwr⟩ := hrel
    have r0 := hwr.keep q0
    by_cases hit : i < n
    · go_wp2
      go_loopw [5, 19] (fun _ m wr => ∃ k : Nat, k ≤ n ∧ m = .int .i64 k ∧ BlkF wr wb.heap.size n (fun o => .int .i64 (tabC n vs i k o)) ∧ Ext wb wr) (fun _ m _ => n - (intOf m).toNat)
      case atStart => exact ⟨0, Nat.zero_le _, rfl, hB, hwr⟩
      case round =>
        clear hB hwr r0
        obtain ⟨m, hm, rfl, hB, hwr⟩ := hrel
        have r0 := hwr.keep q0
        have r1 := hwr.keep q1
        by_cases hlt : m < n
        · have d0 := hB.cell i hit
          rw [tabC_at] at d0
          have z0 := hB.fr i
          have b1 := copeV_bd m vs i
          have b2 := copeV_bd (m + 1) vs i
          have y1 : wrap64 (copeV m vs i + sgnI (marginV vs i m) 0) = copeV (m + 1) vs i := by rw [← copeV_succ, IntWalk.wrap64_in _ (by omega)]
          have y2 : IntKind.i64.wrap (copeV m vs i + sgnI (marginV vs i m) 0) = copeV (m + 1) vs i := by rw [IntWalk.i64_left]; exact y1
          clear b1 b2
          have HB := hide hB
          clear hB
          go_wp2
          refine wp_region_X (by kernel_rfl) (by kernel_rfl) ?_
          repeat' (refine wpX_stepQ (fun K hK => ?_)
                   go_simp
                   try (rw [if_neg (by intro h; simp [undef] at h)])
                   try split
                   all_goals
                     first
                     | (refine hK _ ?_
                        clear hK K)
                     | (apply Exists.intro
                        refine ⟨fun wq hwq => ?_, hK _ ?_⟩
                        · have hcq := hwq.cellS
                          go_simp
                          first
                          | exact ⟨Ext.refl _, rfl⟩
                          | exact ⟨Ext.refl _, margin_impl _ _ _ _ _ _ _ (hR0.ext (by repeat (first | exact Ext.refl _ | assumption | refine Ext.alloc ?_ _ | refine Ext.drew ?_ | refine Ext.trans ?_ (by assumption)))) HS.out⟩
                          | exact ⟨Ext.refl _, cmp_impl _ _ _⟩
                        clear hK K))
          refine wpX_stepL rfl (by kernel_rfl) (by kernel_rfl) (by kernel_rfl) (fun K hK wz hwz => ?_)
          have hcz := hwz.cellS
          have hfz := hwz.frozenS
          go_simp
          refine hK _ _ ?_
          clear hK K
          go_wp2
          refine ⟨⟨m + 1, by omega, by go_num, ((HB.out.ext hwz).set i hit _).congr (fun o _ => ?_), Ext.setCell (Ext.trans hwr hwz) (Nat.le_refl _) _⟩, by simp [intOf]; omega⟩
          by_cases e : o = i
          · subst e; rw [if_pos rfl, tabC_at]
          · rw [if_neg e, tabC_far n vs i m (m + 1) e]
        · have hmn : m = n := by omega
          go_wp2
          exact ⟨⟨i + 1, by omega, by go_num, hB.congr (fun o _ => by rw [hmn, tabC_done]), hwr⟩, by simp [intOf]; omega⟩
    · have hin : i = n := by omega
      go_wp2
      go_ret
      have he : copeO n vs = rowL n (copeV n vs) := by simp [copeO, h0]
      rw [he]
      refine ⟨_, rfl, hB.wrI (rowL_len _ _) (fun j x hx => ?_) hw.size (Nat.le_refl _), hw.trans hwr⟩
      obtain ⟨hj, rfl⟩ := rowL_val hx
      simp only [tabC, hin, if_pos hj]
end Go.Proofs.Ytccoamiblmobhaa
