/- The winner of Bucklin's rule. -/
import Derived.Test.YtbfiaflagadkoaaBuk
namespace Go.Proofs.Ytbfiaflagadkoaa
open Go.RowKit

set_option maxRecDepth 100000 in
theorem rowL_len_le {n m : Nat} {f : Nat → Int} (h : n ≤ m) : (rowL n f).length ≤ m := by rw [rowL_len]; exact h
set_option maxRecDepth 100000 in
theorem best_first {xs : List Int} (h : 1 ≤ xs.length) : ∃ (i : Nat) (r : List Int), bestL xs = (i : Int) :: r ∧ xs[i]? = some (maxL xs) ∧ i < xs.length ∧ ∀ j, j < i → xs[j]? ≠ some (maxL xs) := by
  have h1 := bestT_head (xs := xs) h (Nat.le_refl _)
  rw [bestT_all, List.take_length] at h1
  exact h1

set_option maxRecDepth 100000 in
set_option maxHeartbeats 2000000 in
theorem bukO_spec (w : World) (sz : Int) (a : Option Addr) (c : Nat) (vs : List Vt) (hR : RdV w a vs) :
    Calls Try.prog 47 #[.agg #[.int .i64 sz, .slice a vs.length c]] w fun e w' => e = .returned (.int .i64 (bukO sz vs)) ∧ Ext w w' := by
  have q0 := new0 w (.int .i64 sz) [.slice a vs.length c] 30
  have q1 := new1 w (.int .i64 sz) (.slice a vs.length c) [] 30
  cases h0 : profOk sz vs
  · go_enter Try.func47, Try.ntmps47
    go_wp2_with (go_at_call 66; refine (prof_spec _ _ _ _ _ (hR.ext (by repeat (first | exact Ext.refl _ | assumption | refine Ext.alloc ?_ _ | refine Ext.drew ?_ | refine Ext.trans ?_ (by assumption))))).mono ?_; rintro e w1 ⟨rfl, hw1⟩; have q0 := Ext.keep (w' := w1) (by repeat (first | exact Ext.refl _ | assumption | refine Ext.alloc ?_ _ | refine Ext.drew ?_ | refine Ext.trans ?_ (by assumption))) q0; have q1 := Ext.keep (w' := w1) (by repeat (first | exact Ext.refl _ | assumption | refine Ext.alloc ?_ _ | refine Ext.drew ?_ | refine Ext.trans ?_ (by assumption))) q1)
    go_ret
    exact ⟨ret_int (by simp [bukO, h0]), (by repeat (first | exact Ext.refl _ | assumption | refine Ext.alloc ?_ _ | refine Ext.drew ?_ | refine Ext.trans ?_ (by assumption)))⟩
  obtain ⟨n, rfl, n1, n2⟩ := prof_nat h0
  have HP := hide h0
  have hlv := levV_le n vs
  go_enter Try.func47, Try.ntmps47
  go_wp2_with (go_at_call 66; refine (prof_spec _ _ _ _ _ (hR.ext (by repeat (first | exact Ext.refl _ | assumption | refine Ext.alloc ?_ _ | refine Ext.drew ?_ | refine Ext.trans ?_ (by assumption))))).mono ?_; rintro e w1 ⟨rfl, hw1⟩; have q0 := Ext.keep (w' := w1) (by repeat (first | exact Ext.refl _ | assumption | refine Ext.alloc ?_ _ | refine Ext.drew ?_ | refine Ext.trans ?_ (by assumption))) q0; have q1 := Ext.keep (w' := w1) (by repeat (first | exact Ext.refl _ | assumption | refine Ext.alloc ?_ _ | refine Ext.drew ?_ | refine Ext.trans ?_ (by assumption))) q1)
  refine wp_region_X (by kernel_rfl) (by kernel_rfl) ?_
  repeat' (refine wpX_stepQ (fun K hK => ?_)
           go_simp
           try (rw [if_neg (by intro h; simp [undef] at h)])
           try split
           all_goals
             first
             | (refine hK _ ?_
                clear hK K)
             | (apply Exists.intro
                refine ⟨fun wq hwq => ?_, hK _ ?_⟩
                · have hcq := hwq.cellS
                  go_simp
                  first
                  | exact ⟨Ext.refl _, rfl⟩
                  | exact ⟨Ext.refl _, lev_spec _ _ _ _ _ (hR.ext (by repeat (first | exact Ext.refl _ | assumption | refine Ext.alloc ?_ _ | refine Ext.drew ?_ | refine Ext.trans ?_ (by assumption)))) HP.out⟩
                clear hK K))
  refine wpX_stepS rfl (by kernel_rfl) (fun K hK wq hwq => ?_)
  go_simp
  refine (wth_spec _ n a c vs (levV n vs) (hR.ext (by repeat (first | exact Ext.refl _ | assumption | refine Ext.alloc ?_ _ | refine Ext.drew ?_ | refine Ext.trans ?_ (by assumption)))) HP.out hlv).mono ?_
  rintro e w3 ⟨v, rfl, hv, hw3⟩
  refine ⟨hw3, hK _ _ ?_⟩
  clear hK K
  obtain ⟨av, cv, rfl, _, _, hRv, _⟩ := hv.val
  refine wpX_stepS rfl (by kernel_rfl) (fun K hK wq hwq => ?_)
  go_simp
  refine (best_spec5 _ av cv _ (hRv.ext (by repeat (first | exact Ext.refl _ | assumption | refine Ext.alloc ?_ _ | refine Ext.drew ?_ | refine Ext.trans ?_ (by assumption)))) (rowL_len_le (by omega))).mono ?_
  rintro e w4 ⟨v2, rfl, hv2, hw4⟩
  refine ⟨hw4, hK _ _ ?_⟩
  clear hK K
  obtain ⟨i, r, hb, _⟩ := best_first (xs := rowL n (wthV vs (levV n vs))) (by rw [rowL_len]; exact n1)
  obtain ⟨a2, c2, rfl, _, _, hR2, _⟩ := hv2.val
  obtain ⟨b3, off3, rfl, d0⟩ := hR2.at_ (k := 0) (x := (i : Int)) (by rw [hb]; rfl)
  rw [Nat.add_zero] at d0
  have hbl : 1 ≤ (bestL (rowL n (wthV vs (levV n vs)))).length := by rw [hb]; simp
  obtain ⟨L, hL⟩ : ∃ L : Nat, L = (bestL (rowL n (wthV vs (levV n vs)))).length := ⟨_, rfl⟩
  rw [← hL] at hbl ⊢
  have HB := hide hb
  have hbl0 : 0 < L := hbl
  clear hb hv hv2 hRv hR2 hL
  repeat' (refine wpX_stepQ (fun K hK => ?_)
           go_simp
           try (rw [if_neg (by intro h; simp [undef] at h)])
           try split
           all_goals
             first
             | (refine hK _ ?_
                clear hK K)
             | (apply Exists.intro
                refine ⟨fun wq hwq => ?_, hK _ ?_⟩
                · have hcq := hwq.cellS
                  go_simp
                  first
                  | exact ⟨Ext.refl _, rfl⟩
                clear hK K))
  refine wpX_nil (fun wz hwz => ?_)
  go_wp2
  go_ret
  refine ⟨ret_int ?_, (by repeat (first | exact Ext.refl _ | assumption | refine Ext.alloc ?_ _ | refine Ext.drew ?_ | refine Ext.trans ?_ (by assumption)))⟩
  simp only [bukO, h0, if_true, Int.toNat_natCast, HB.out, List.headD_cons]

set_option maxRecDepth 100000 in
set_option maxHeartbeats 2000000 in
theorem bukO_impl (w : World) (sz : Int) (a : Option Addr) (c : Nat) (vs : List Vt) (hR : RdV w a vs) :
    Calls Try.prog 48 #[.agg #[.int .i64 sz, .slice a vs.length c]] w fun e w' => e = .returned (.int .i64 (bukO sz vs)) ∧ Ext w w' := by
  have q0 := new0 w (.int .i64 sz) [.slice a vs.length c] 30
  have q1 := new1 w (.int .i64 sz) (.slice a vs.length c) [] 30
  cases h0 : profOk sz vs
  · have HL : Hid (levO sz vs = -1) := hide (by simp [levO, h0])
    go_enter Try.func48, Try.ntmps48
    go_wp2_with fail
    refine (levO_impl _ sz a c vs (hR.ext (by repeat (first | exact Ext.refl _ | assumption | refine Ext.alloc ?_ _ | refine Ext.drew ?_ | refine Ext.trans ?_ (by assumption))))).mono ?_
    rintro e w1 ⟨rfl, hw1⟩
    rw [HL.out]
    go_wp2
    go_ret
    exact ⟨ret_int (by simp [bukO, h0]), (by repeat (first | exact Ext.refl _ | assumption | refine Ext.alloc ?_ _ | refine Ext.drew ?_ | refine Ext.trans ?_ (by assumption)))⟩
  obtain ⟨n, rfl, n1, n2⟩ := prof_nat h0
  have HS := hide (prof_small h0)
  have hlv := levV_le n vs
  have HL : Hid (levO n vs = (levV n vs : Int)) := hide (by simp [levO, h0])
  obtain ⟨i, r, hb, hmx, hil, hmin⟩ := best_first (xs := rowL n (wthV vs (levV n vs))) (by rw [rowL_len]; exact n1)
  have HO : Hid (bukO n vs = i) := hide (by simp only [bukO, h0, if_true, Int.toNat_natCast, hb, List.headD_cons])
  by_cases hz : levV n vs = 0
  · have hi0 : i = 0 := by
      rcases Nat.eq_zero_or_pos i with h | h
      · exact h
      · have hall : ∀ j, j < n → wthV vs 0 j = 0 := fun j hj => by
          rw [← wth_sum HS.out hj 0]; rfl
        exfalso
        refine hmin 0 h ?_
        rw [← hmx, rowL_at (by omega), rowL_at (by rw [rowL_len] at hil; exact hil), hz, hall 0 (by omega), hall i (by rw [rowL_len] at hil; exact hil)]
    have HI := hide hi0
    have HZ := hide hz
    clear hb hmx hil hmin hi0 hz h0
    go_enter Try.func48, Try.ntmps48
    go_wp2_with fail
    refine (levO_impl _ n a c vs (hR.ext (by repeat (first | exact Ext.refl _ | assumption | refine Ext.alloc ?_ _ | refine Ext.drew ?_ | refine Ext.trans ?_ (by assumption))))).mono ?_
    rintro e w1 ⟨rfl, hw1⟩
    rw [HL.out, HZ.out]
    go_wp2
    go_ret
    exact ⟨ret_int (by rw [HO.out, HI.out]; rfl), (by repeat (first | exact Ext.refl _ | assumption | refine Ext.alloc ?_ _ | refine Ext.drew ?_ | refine Ext.trans ?_ (by assumption)))⟩
  · have hp : ¬ ((levV n vs : Int) < 1) := by omega
    have HB := hide hb
    clear hb hmx hil hmin h0
    go_enter Try.func48, Try.ntmps48
    go_wp2_with fail
    refine (levO_impl _ n a c vs (hR.ext (by repeat (first | exact Ext.refl _ | assumption | refine Ext.alloc ?_ _ | refine Ext.drew ?_ | refine Ext.trans ?_ (by assumption))))).mono ?_
    rintro e w1 ⟨rfl, hw1⟩
    rw [HL.out]
    have q0 := hw1.keep q0
    have q1 := hw1.keep q1
    go_wp2_with fail
    refine (wth_impl _ n a c vs (levV n vs) (hR.ext (by repeat (first | exact Ext.refl _ | assumption | refine Ext.alloc ?_ _ | refine Ext.drew ?_ | refine Ext.trans ?_ (by assumption)))) HS.out n2).mono ?_
    rintro e w3 ⟨v, rfl, hv, hw3⟩
    obtain ⟨av, cv, rfl, _, hRv, _⟩ := hv.fr
    go_wp2_with fail
    refine (gr_impl _ av cv _ (hRv.ext (by repeat (first | exact Ext.refl _ | assumption | refine Ext.alloc ?_ _ | refine Ext.drew ?_ | refine Ext.trans ?_ (by assumption)))) (by rw [rowL_len]; omega)).mono ?_
    rintro e w4 ⟨v2, rfl, hv2, hw4⟩
    obtain ⟨a2, c2, rfl, _, _, hR2, _⟩ := hv2.val
    obtain ⟨b3, off3, rfl, d0⟩ := hR2.at_ (k := 0) (x := (i : Int)) (by rw [HB.out]; rfl)
    rw [Nat.add_zero] at d0
    have hbl : 1 ≤ (bestL (rowL n (wthV vs (levV n vs)))).length := by rw [HB.out]; simp
    clear hv hv2 hRv hR2
    go_wp2
    go_ret
    exact ⟨ret_int HO.out.symm, (by repeat (first | exact Ext.refl _ | assumption | refine Ext.alloc ?_ _ | refine Ext.drew ?_ | refine Ext.trans ?_ (by assumption)))⟩

end Go.Proofs.Ytbfiaflagadkoaa
