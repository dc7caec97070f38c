/- Winners by a rule, of the program. The ranking with the fewest pairs that are beaten backwards, of the spec. -/
import Derived.Test.YtilcdnkkabmbfaaGreatCk16
import Derived.Test.YtilcdnkkabmbfaaGreatCk18
import Derived.Test.YtilcdnkkabmbfaaGreatCk20
import Derived.Test.YtilcdnkkabmbfaaGreatCk21
import Derived.Test.YtilcdnkkabmbfaaGreatCk6
namespace Go.Proofs.YtilcdnkkabmbfaaGreat
open Go.RowKit

set_option maxRecDepth 100000 in
theorem rank1 {xs : List Int} {n : Nat} (h : xs.length = n) (n1 : 1 ≤ n) : ∃ y ys, xs = y :: ys := by
  cases xs with
  | nil => simp at h; omega
  | cons y ys => exact ⟨y, ys, rfl⟩
set_option maxRecDepth 100000 in
theorem prkO_full {n : Nat} {vs : List Vt} (_n1 : 1 ≤ n) (_n2 : n ≤ 5) (h0 : profOk n vs = true) : (prkO n vs).length = n := by unfold prkO; rw [if_pos h0, Int.toNat_natCast, prL_len]
set_option maxRecDepth 100000 in
theorem kemO_full {n : Nat} {vs : List Vt} (n1 : 1 ≤ n) (n2 : n ≤ 5) (h0 : profOk n vs = true) : (kemO n vs).length = n := by
  have e : kemO n vs = (lstR (kemV vs) n).1 := by simp [kemO, lstO, h0]
  rw [e]
  have := (rk_len ((allO_mem n1 n2).1 (lstR_mem (cost := kemV vs) n1 n2).1)).1
  omega

set_option maxRecDepth 100000 in
set_option maxHeartbeats 2000000 in
theorem winI1 (w : World) (n : Nat) (a : Option Addr) (c : Nat) (vs : List Vt) (hR : RdV w a vs) (h0 : profOk n vs = true) :
    Calls Tryz.prog 17 #[.int .i64 1, .agg #[.int .i64 n, .slice a vs.length c]] w fun e w' => ∃ v, e = .returned v ∧ OwnI w' w.heap.size v (winL 1 n vs) ∧ Ext w w' := by
  have q0 := new0 w (.int .i64 n) [.slice a vs.length c] 29
  have q1 := new1 w (.int .i64 n) (.slice a vs.length c) [] 29
  have n1 : 1 ≤ n := by have := prof_size h0; omega
  have n2 : n ≤ 5 := by have := prof_size h0; omega
  have HV : Hid (winL 1 n vs = bestL (rowL n (scoV pluW vs))) := rfl
  have H0 := hide h0
  go_enter Tryz.func17, Tryz.ntmps17
  go_wp2_with (go_at_call 36; refine (prof_impl _ _ _ _ _ (hR.ext (by repeat (first | exact Ext.refl _ | assumption | refine Ext.alloc ?_ _ | refine Ext.drew ?_ | refine Ext.trans ?_ (by assumption))))).mono ?_; rintro e w1 ⟨rfl, hw1⟩; have q0 := Ext.keep (w' := w1) (by repeat (first | exact Ext.refl _ | assumption | refine Ext.alloc ?_ _ | refine Ext.drew ?_ | refine Ext.trans ?_ (by assumption))) q0; have q1 := Ext.keep (w' := w1) (by repeat (first | exact Ext.refl _ | assumption | refine Ext.alloc ?_ _ | refine Ext.drew ?_ | refine Ext.trans ?_ (by assumption))) q1)
  clear h0
  have hw : Ext w w1 := (by repeat (first | exact Ext.refl _ | assumption | refine Ext.alloc ?_ _ | refine Ext.drew ?_ | refine Ext.trans ?_ (by assumption)))
  obtain ⟨wb, hwb⟩ : ∃ wb : World, wb = w1 := ⟨_, rfl⟩
  subst hwb
  clear hw1
  refine wp_region_X (by kernel_rfl) (by kernel_rfl) ?_
  repeat' (refine wpX_stepQ (fun K hK => ?_)
           go_simp
           try (rw [if_neg (by intro h; simp [undef] at h)])
           try split
           all_goals
             first
             | (refine hK _ ?_
                clear hK K)
             | (apply Exists.intro
                refine ⟨fun wq hwq => ?_, hK _ ?_⟩
                · have hcq := hwq.cellS
                  go_simp
                  first
                  | exact ⟨Ext.refl _, rfl⟩
                clear hK K))
  refine wpX_stepS rfl (by kernel_rfl) (fun K hK wq hwq => ?_)
  go_simp
  refine (plu_impl _ _).mono ?_
  rintro e w2 ⟨v, rfl, hv, hw2⟩
  refine ⟨hw2, hK _ _ ?_⟩
  clear hK K
  have hv := hv n rfl (inR_iff.2 (by omega))
  obtain ⟨av, cv, rfl, _, hRv, hju⟩ := hv.fr
  clear hju
  rw [rowL_len]
  refine wpX_stepS rfl (by kernel_rfl) (fun K hK wq hwq => ?_)
  go_simp
  refine (swin_impl _ n a av c cv vs pluW n2 (hR.ext (by repeat (first | exact Ext.refl _ | assumption | refine Ext.alloc ?_ _ | refine Ext.drew ?_ | refine Ext.trans ?_ (by assumption)))) (hRv.ext (by repeat (first | exact Ext.refl _ | assumption | refine Ext.alloc ?_ _ | refine Ext.drew ?_ | refine Ext.trans ?_ (by assumption)))) pluG H0.out).mono ?_
  rintro e w3 ⟨v3, rfl, hv3, hw3⟩
  refine ⟨hw3, hK _ _ ?_⟩
  clear hK K
  repeat' (refine wpX_stepQ (fun K hK => ?_)
           go_simp
           try (rw [if_neg (by intro h; simp [undef] at h)])
           try split
           all_goals
             first
             | (refine hK _ ?_
                clear hK K)
             | (apply Exists.intro
                refine ⟨fun wq hwq => ?_, hK _ ?_⟩
                · have hcq := hwq.cellS
                  go_simp
                  first
                  | exact ⟨Ext.refl _, rfl⟩
                clear hK K))
  refine wpX_nil (fun wz hwz => ?_)
  go_wp2
  go_ret
  exact ⟨_, rfl, by rw [HV.out]; exact (hv3.ext hwz).base (Ext.size (by repeat (first | exact Ext.refl _ | assumption | refine Ext.alloc ?_ _ | refine Ext.drew ?_ | refine Ext.trans ?_ (by assumption)))), (by repeat (first | exact Ext.refl _ | assumption | refine Ext.alloc ?_ _ | refine Ext.drew ?_ | refine Ext.trans ?_ (by assumption)))⟩

set_option maxRecDepth 100000 in
set_option maxHeartbeats 2000000 in
theorem winI2 (w : World) (n : Nat) (a : Option Addr) (c : Nat) (vs : List Vt) (hR : RdV w a vs) (h0 : profOk n vs = true) :
    Calls Tryz.prog 17 #[.int .i64 2, .agg #[.int .i64 n, .slice a vs.length c]] w fun e w' => ∃ v, e = .returned v ∧ OwnI w' w.heap.size v (winL 2 n vs) ∧ Ext w w' := by
  have q0 := new0 w (.int .i64 n) [.slice a vs.length c] 29
  have q1 := new1 w (.int .i64 n) (.slice a vs.length c) [] 29
  have n1 : 1 ≤ n := by have := prof_size h0; omega
  have n2 : n ≤ 5 := by have := prof_size h0; omega
  have HV : Hid (winL 2 n vs = bestL (rowL n (scoV (borW n) vs))) := rfl
  have H0 := hide h0
  go_enter Tryz.func17, Tryz.ntmps17
  go_wp2_with (go_at_call 36; refine (prof_impl _ _ _ _ _ (hR.ext (by repeat (first | exact Ext.refl _ | assumption | refine Ext.alloc ?_ _ | refine Ext.drew ?_ | refine Ext.trans ?_ (by assumption))))).mono ?_; rintro e w1 ⟨rfl, hw1⟩; have q0 := Ext.keep (w' := w1) (by repeat (first | exact Ext.refl _ | assumption | refine Ext.alloc ?_ _ | refine Ext.drew ?_ | refine Ext.trans ?_ (by assumption))) q0; have q1 := Ext.keep (w' := w1) (by repeat (first | exact Ext.refl _ | assumption | refine Ext.alloc ?_ _ | refine Ext.drew ?_ | refine Ext.trans ?_ (by assumption))) q1)
  clear h0
  have hw : Ext w w1 := (by repeat (first | exact Ext.refl _ | assumption | refine Ext.alloc ?_ _ | refine Ext.drew ?_ | refine Ext.trans ?_ (by assumption)))
  obtain ⟨wb, hwb⟩ : ∃ wb : World, wb = w1 := ⟨_, rfl⟩
  subst hwb
  clear hw1
  refine wp_region_X (by kernel_rfl) (by kernel_rfl) ?_
  repeat' (refine wpX_stepQ (fun K hK => ?_)
           go_simp
           try (rw [if_neg (by intro h; simp [undef] at h)])
           try split
           all_goals
             first
             | (refine hK _ ?_
                clear hK K)
             | (apply Exists.intro
                refine ⟨fun wq hwq => ?_, hK _ ?_⟩
                · have hcq := hwq.cellS
                  go_simp
                  first
                  | exact ⟨Ext.refl _, rfl⟩
                clear hK K))
  refine wpX_stepS rfl (by kernel_rfl) (fun K hK wq hwq => ?_)
  go_simp
  refine (bor_impl _ n n1 n2).mono ?_
  rintro e w2 ⟨v, rfl, hv, hw2⟩
  refine ⟨hw2, hK _ _ ?_⟩
  clear hK K
  obtain ⟨av, cv, rfl, _, hRv, hju⟩ := hv.fr
  clear hju
  rw [rowL_len]
  refine wpX_stepS rfl (by kernel_rfl) (fun K hK wq hwq => ?_)
  go_simp
  refine (swin_impl _ n a av c cv vs (borW n) n2 (hR.ext (by repeat (first | exact Ext.refl _ | assumption | refine Ext.alloc ?_ _ | refine Ext.drew ?_ | refine Ext.trans ?_ (by assumption)))) (hRv.ext (by repeat (first | exact Ext.refl _ | assumption | refine Ext.alloc ?_ _ | refine Ext.drew ?_ | refine Ext.trans ?_ (by assumption)))) (borG n2) H0.out).mono ?_
  rintro e w3 ⟨v3, rfl, hv3, hw3⟩
  refine ⟨hw3, hK _ _ ?_⟩
  clear hK K
  repeat' (refine wpX_stepQ (fun K hK => ?_)
           go_simp
           try (rw [if_neg (by intro h; simp [undef] at h)])
           try split
           all_goals
             first
             | (refine hK _ ?_
                clear hK K)
             | (apply Exists.intro
                refine ⟨fun wq hwq => ?_, hK _ ?_⟩
                · have hcq := hwq.cellS
                  go_simp
                  first
                  | exact ⟨Ext.refl _, rfl⟩
                clear hK K))
  refine wpX_nil (fun wz hwz => ?_)
  go_wp2
  go_ret
  exact ⟨_, rfl, by rw [HV.out]; exact (hv3.ext hwz).base (Ext.size (by repeat (first | exact Ext.refl _ | assumption | refine Ext.alloc ?_ _ | refine Ext.drew ?_ | refine Ext.trans ?_ (by assumption)))), (by repeat (first | exact Ext.refl _ | assumption | refine Ext.alloc ?_ _ | refine Ext.drew ?_ | refine Ext.trans ?_ (by assumption)))⟩

set_option maxRecDepth 100000 in
set_option maxHeartbeats 2000000 in
theorem winI3 (w : World) (n : Nat) (a : Option Addr) (c : Nat) (vs : List Vt) (hR : RdV w a vs) (h0 : profOk n vs = true) :
    Calls Tryz.prog 17 #[.int .i64 3, .agg #[.int .i64 n, .slice a vs.length c]] w fun e w' => ∃ v, e = .returned v ∧ OwnI w' w.heap.size v (winL 3 n vs) ∧ Ext w w' := by
  have q0 := new0 w (.int .i64 n) [.slice a vs.length c] 29
  have q1 := new1 w (.int .i64 n) (.slice a vs.length c) [] 29
  have n1 : 1 ≤ n := by have := prof_size h0; omega
  have n2 : n ≤ 5 := by have := prof_size h0; omega
  have HV : Hid (winL 3 n vs = bestL (rowL n (scoV (vetW n) vs))) := rfl
  have H0 := hide h0
  go_enter Tryz.func17, Tryz.ntmps17
  go_wp2_with (go_at_call 36; refine (prof_impl _ _ _ _ _ (hR.ext (by repeat (first | exact Ext.refl _ | assumption | refine Ext.alloc ?_ _ | refine Ext.drew ?_ | refine Ext.trans ?_ (by assumption))))).mono ?_; rintro e w1 ⟨rfl, hw1⟩; have q0 := Ext.keep (w' := w1) (by repeat (first | exact Ext.refl _ | assumption | refine Ext.alloc ?_ _ | refine Ext.drew ?_ | refine Ext.trans ?_ (by assumption))) q0; have q1 := Ext.keep (w' := w1) (by repeat (first | exact Ext.refl _ | assumption | refine Ext.alloc ?_ _ | refine Ext.drew ?_ | refine Ext.trans ?_ (by assumption))) q1)
  clear h0
  have hw : Ext w w1 := (by repeat (first | exact Ext.refl _ | assumption | refine Ext.alloc ?_ _ | refine Ext.drew ?_ | refine Ext.trans ?_ (by assumption)))
  obtain ⟨wb, hwb⟩ : ∃ wb : World, wb = w1 := ⟨_, rfl⟩
  subst hwb
  clear hw1
  refine wp_region_X (by kernel_rfl) (by kernel_rfl) ?_
  repeat' (refine wpX_stepQ (fun K hK => ?_)
           go_simp
           try (rw [if_neg (by intro h; simp [undef] at h)])
           try split
           all_goals
             first
             | (refine hK _ ?_
                clear hK K)
             | (apply Exists.intro
                refine ⟨fun wq hwq => ?_, hK _ ?_⟩
                · have hcq := hwq.cellS
                  go_simp
                  first
                  | exact ⟨Ext.refl _, rfl⟩
                clear hK K))
  refine wpX_stepS rfl (by kernel_rfl) (fun K hK wq hwq => ?_)
  go_simp
  refine (vet_impl _ n n1 n2).mono ?_
  rintro e w2 ⟨v, rfl, hv, hw2⟩
  refine ⟨hw2, hK _ _ ?_⟩
  clear hK K
  obtain ⟨av, cv, rfl, _, hRv, hju⟩ := hv.fr
  clear hju
  rw [rowL_len]
  refine wpX_stepS rfl (by kernel_rfl) (fun K hK wq hwq => ?_)
  go_simp
  refine (swin_impl _ n a av c cv vs (vetW n) n2 (hR.ext (by repeat (first | exact Ext.refl _ | assumption | refine Ext.alloc ?_ _ | refine Ext.drew ?_ | refine Ext.trans ?_ (by assumption)))) (hRv.ext (by repeat (first | exact Ext.refl _ | assumption | refine Ext.alloc ?_ _ | refine Ext.drew ?_ | refine Ext.trans ?_ (by assumption)))) (vetG n) H0.out).mono ?_
  rintro e w3 ⟨v3, rfl, hv3, hw3⟩
  refine ⟨hw3, hK _ _ ?_⟩
  clear hK K
  repeat' (refine wpX_stepQ (fun K hK => ?_)
           go_simp
           try (rw [if_neg (by intro h; simp [undef] at h)])
           try split
           all_goals
             first
             | (refine hK _ ?_
                clear hK K)
             | (apply Exists.intro
                refine ⟨fun wq hwq => ?_, hK _ ?_⟩
                · have hcq := hwq.cellS
                  go_simp
                  first
                  | exact ⟨Ext.refl _, rfl⟩
                clear hK K))
  refine wpX_nil (fun wz hwz => ?_)
  go_wp2
  go_ret
  exact ⟨_, rfl, by rw [HV.out]; exact (hv3.ext hwz).base (Ext.size (by repeat (first | exact Ext.refl _ | assumption | refine Ext.alloc ?_ _ | refine Ext.drew ?_ | refine Ext.trans ?_ (by assumption)))), (by repeat (first | exact Ext.refl _ | assumption | refine Ext.alloc ?_ _ | refine Ext.drew ?_ | refine Ext.trans ?_ (by assumption)))⟩

set_option maxRecDepth 100000 in
set_option maxHeartbeats 2000000 in
theorem winI4 (w : World) (n : Nat) (a : Option Addr) (c : Nat) (vs : List Vt) (hR : RdV w a vs) (h0 : profOk n vs = true) :
    Calls Tryz.prog 17 #[.int .i64 4, .agg #[.int .i64 n, .slice a vs.length c]] w fun e w' => ∃ v, e = .returned v ∧ OwnI w' w.heap.size v (winL 4 n vs) ∧ Ext w w' := by
  have q0 := new0 w (.int .i64 n) [.slice a vs.length c] 29
  have q1 := new1 w (.int .i64 n) (.slice a vs.length c) [] 29
  have n1 : 1 ≤ n := by have := prof_size h0; omega
  have n2 : n ≤ 5 := by have := prof_size h0; omega
  have HV : Hid (winL 4 n vs = bestL (copeO n vs)) := rfl
  have H0 := hide h0
  go_enter Tryz.func17, Tryz.ntmps17
  go_wp2_with (go_at_call 36; refine (prof_impl _ _ _ _ _ (hR.ext (by repeat (first | exact Ext.refl _ | assumption | refine Ext.alloc ?_ _ | refine Ext.drew ?_ | refine Ext.trans ?_ (by assumption))))).mono ?_; rintro e w1 ⟨rfl, hw1⟩; have q0 := Ext.keep (w' := w1) (by repeat (first | exact Ext.refl _ | assumption | refine Ext.alloc ?_ _ | refine Ext.drew ?_ | refine Ext.trans ?_ (by assumption))) q0; have q1 := Ext.keep (w' := w1) (by repeat (first | exact Ext.refl _ | assumption | refine Ext.alloc ?_ _ | refine Ext.drew ?_ | refine Ext.trans ?_ (by assumption))) q1)
  clear h0
  have hw : Ext w w1 := (by repeat (first | exact Ext.refl _ | assumption | refine Ext.alloc ?_ _ | refine Ext.drew ?_ | refine Ext.trans ?_ (by assumption)))
  obtain ⟨wb, hwb⟩ : ∃ wb : World, wb = w1 := ⟨_, rfl⟩
  subst hwb
  clear hw1
  refine (cope_impl _ n a c vs (hR.ext hw)).mono ?_
  rintro e w2 ⟨v, rfl, hv, hw2⟩
  obtain ⟨av, cv, rfl, _, hRs, hju⟩ := hv.fr
  clear hju
  have H := hide (gr_impl w2 av cv (copeO n vs) hRs (by have := copeO_len n vs; omega))
  clear hv hRs
  go_wp2_with fail
  refine H.out.mono ?_
  rintro e w3 ⟨v3, rfl, hv3, hw3⟩
  have hs := (hw.trans hw2).size
  go_wp2
  go_ret
  exact ⟨_, rfl, by rw [HV.out]; exact hv3.base hs, hw.trans (hw2.trans hw3)⟩

set_option maxRecDepth 100000 in
set_option maxHeartbeats 2000000 in
theorem winI5 (w : World) (n : Nat) (a : Option Addr) (c : Nat) (vs : List Vt) (hR : RdV w a vs) (h0 : profOk n vs = true) :
    Calls Tryz.prog 17 #[.int .i64 5, .agg #[.int .i64 n, .slice a vs.length c]] w fun e w' => ∃ v, e = .returned v ∧ OwnI w' w.heap.size v (winL 5 n vs) ∧ Ext w w' := by
  have q0 := new0 w (.int .i64 n) [.slice a vs.length c] 29
  have q1 := new1 w (.int .i64 n) (.slice a vs.length c) [] 29
  have n1 : 1 ≤ n := by have := prof_size h0; omega
  have n2 : n ≤ 5 := by have := prof_size h0; omega
  have HV : Hid (winL 5 n vs = bestL (maxiO n vs)) := rfl
  have H0 := hide h0
  go_enter Tryz.func17, Tryz.ntmps17
  go_wp2_with (go_at_call 36; refine (prof_impl _ _ _ _ _ (hR.ext (by repeat (first | exact Ext.refl _ | assumption | refine Ext.alloc ?_ _ | refine Ext.drew ?_ | refine Ext.trans ?_ (by assumption))))).mono ?_; rintro e w1 ⟨rfl, hw1⟩; have q0 := Ext.keep (w' := w1) (by repeat (first | exact Ext.refl _ | assumption | refine Ext.alloc ?_ _ | refine Ext.drew ?_ | refine Ext.trans ?_ (by assumption))) q0; have q1 := Ext.keep (w' := w1) (by repeat (first | exact Ext.refl _ | assumption | refine Ext.alloc ?_ _ | refine Ext.drew ?_ | refine Ext.trans ?_ (by assumption))) q1)
  clear h0
  have hw : Ext w w1 := (by repeat (first | exact Ext.refl _ | assumption | refine Ext.alloc ?_ _ | refine Ext.drew ?_ | refine Ext.trans ?_ (by assumption)))
  obtain ⟨wb, hwb⟩ : ∃ wb : World, wb = w1 := ⟨_, rfl⟩
  subst hwb
  clear hw1
  refine (maxi_impl _ n a c vs (hR.ext hw)).mono ?_
  rintro e w2 ⟨v, rfl, hv, hw2⟩
  obtain ⟨av, cv, rfl, _, hRs, hju⟩ := hv.fr
  clear hju
  have H := hide (gr_impl w2 av cv (maxiO n vs) hRs (by have := maxiO_len n vs; omega))
  clear hv hRs
  go_wp2_with fail
  refine H.out.mono ?_
  rintro e w3 ⟨v3, rfl, hv3, hw3⟩
  have hs := (hw.trans hw2).size
  go_wp2
  go_ret
  exact ⟨_, rfl, by rw [HV.out]; exact hv3.base hs, hw.trans (hw2.trans hw3)⟩

set_option maxRecDepth 100000 in
set_option maxHeartbeats 2000000 in
theorem winI6 (w : World) (n : Nat) (a : Option Addr) (c : Nat) (vs : List Vt) (hR : RdV w a vs) (h0 : profOk n vs = true) :
    Calls Tryz.prog 17 #[.int .i64 6, .agg #[.int .i64 n, .slice a vs.length c]] w fun e w' => ∃ v, e = .returned v ∧ OwnI w' w.heap.size v (winL 6 n vs) ∧ Ext w w' := by
  have q0 := new0 w (.int .i64 n) [.slice a vs.length c] 29
  have q1 := new1 w (.int .i64 n) (.slice a vs.length c) [] 29
  have n1 : 1 ≤ n := by have := prof_size h0; omega
  have n2 : n ≤ 5 := by have := prof_size h0; omega
  have HV : Hid (winL 6 n vs = [runO n vs]) := rfl
  have H0 := hide h0
  go_enter Tryz.func17, Tryz.ntmps17
  go_wp2_with (go_at_call 36; refine (prof_impl _ _ _ _ _ (hR.ext (by repeat (first | exact Ext.refl _ | assumption | refine Ext.alloc ?_ _ | refine Ext.drew ?_ | refine Ext.trans ?_ (by assumption))))).mono ?_; rintro e w1 ⟨rfl, hw1⟩; have q0 := Ext.keep (w' := w1) (by repeat (first | exact Ext.refl _ | assumption | refine Ext.alloc ?_ _ | refine Ext.drew ?_ | refine Ext.trans ?_ (by assumption))) q0; have q1 := Ext.keep (w' := w1) (by repeat (first | exact Ext.refl _ | assumption | refine Ext.alloc ?_ _ | refine Ext.drew ?_ | refine Ext.trans ?_ (by assumption))) q1)
  clear h0
  have hw : Ext w w1 := (by repeat (first | exact Ext.refl _ | assumption | refine Ext.alloc ?_ _ | refine Ext.drew ?_ | refine Ext.trans ?_ (by assumption)))
  obtain ⟨wb, hwb⟩ : ∃ wb : World, wb = w1 := ⟨_, rfl⟩
  subst hwb
  clear hw1
  refine (run_impl _ n a c vs (hR.ext hw)).mono ?_
  rintro e w2 ⟨rfl, hw2⟩
  have hs := (hw.trans hw2).size
  have hO := OwnI.lit1 w2 (runO n vs)
  go_wp2
  go_ret
  exact ⟨_, rfl, by rw [HV.out]; exact hO.base hs, hw.trans (hw2.trans (Ext.new _ _))⟩

set_option maxRecDepth 100000 in
set_option maxHeartbeats 2000000 in
theorem winI7 (w : World) (n : Nat) (a : Option Addr) (c : Nat) (vs : List Vt) (hR : RdV w a vs) (h0 : profOk n vs = true) :
    Calls Tryz.prog 17 #[.int .i64 7, .agg #[.int .i64 n, .slice a vs.length c]] w fun e w' => ∃ v, e = .returned v ∧ OwnI w' w.heap.size v (winL 7 n vs) ∧ Ext w w' := by
  have q0 := new0 w (.int .i64 n) [.slice a vs.length c] 29
  have q1 := new1 w (.int .i64 n) (.slice a vs.length c) [] 29
  have n1 : 1 ≤ n := by have := prof_size h0; omega
  have n2 : n ≤ 5 := by have := prof_size h0; omega
  have HV : Hid (winL 7 n vs = [lastI (elimO n vs (worF vs))]) := rfl
  have H0 := hide h0
  go_enter Tryz.func17, Tryz.ntmps17
  go_wp2_with (go_at_call 36; refine (prof_impl _ _ _ _ _ (hR.ext (by repeat (first | exact Ext.refl _ | assumption | refine Ext.alloc ?_ _ | refine Ext.drew ?_ | refine Ext.trans ?_ (by assumption))))).mono ?_; rintro e w1 ⟨rfl, hw1⟩; have q0 := Ext.keep (w' := w1) (by repeat (first | exact Ext.refl _ | assumption | refine Ext.alloc ?_ _ | refine Ext.drew ?_ | refine Ext.trans ?_ (by assumption))) q0; have q1 := Ext.keep (w' := w1) (by repeat (first | exact Ext.refl _ | assumption | refine Ext.alloc ?_ _ | refine Ext.drew ?_ | refine Ext.trans ?_ (by assumption))) q1)
  clear h0
  have hw : Ext w w1 := (by repeat (first | exact Ext.refl _ | assumption | refine Ext.alloc ?_ _ | refine Ext.drew ?_ | refine Ext.trans ?_ (by assumption)))
  obtain ⟨wb, hwb⟩ : ∃ wb : World, wb = w1 := ⟨_, rfl⟩
  subst hwb
  clear hw1
  refine (inst_impl _ n a c vs (hR.ext hw)).mono ?_
  rintro e w2 ⟨v, rfl, hv, hw2⟩
  obtain ⟨av, cv, rfl, _, hRs, hju⟩ := hv.fr
  clear hju
  have H := hide (lastOf_impl w2 av cv (elimO n vs (worF vs)) hRs (by have := elimO_len n vs (worF vs); omega))
  clear hv hRs
  go_wp2_with fail
  refine H.out.mono ?_
  rintro e w3 ⟨rfl, hw3⟩
  have hs := (hw.trans (hw2.trans hw3)).size
  have hO := OwnI.lit1 w3 (lastI (elimO n vs (worF vs)))
  go_wp2
  go_ret
  exact ⟨_, rfl, by rw [HV.out]; exact hO.base hs, hw.trans (hw2.trans (hw3.trans (Ext.new _ _)))⟩

set_option maxRecDepth 100000 in
set_option maxHeartbeats 2000000 in
theorem winI8 (w : World) (n : Nat) (a : Option Addr) (c : Nat) (vs : List Vt) (hR : RdV w a vs) (h0 : profOk n vs = true) :
    Calls Tryz.prog 17 #[.int .i64 8, .agg #[.int .i64 n, .slice a vs.length c]] w fun e w' => ∃ v, e = .returned v ∧ OwnI w' w.heap.size v (winL 8 n vs) ∧ Ext w w' := by
  have q0 := new0 w (.int .i64 n) [.slice a vs.length c] 29
  have q1 := new1 w (.int .i64 n) (.slice a vs.length c) [] 29
  have n1 : 1 ≤ n := by have := prof_size h0; omega
  have n2 : n ≤ 5 := by have := prof_size h0; omega
  have HV : Hid (winL 8 n vs = [lastI (elimO n vs (worL vs))]) := rfl
  have H0 := hide h0
  go_enter Tryz.func17, Tryz.ntmps17
  go_wp2_with (go_at_call 36; refine (prof_impl _ _ _ _ _ (hR.ext (by repeat (first | exact Ext.refl _ | assumption | refine Ext.alloc ?_ _ | refine Ext.drew ?_ | refine Ext.trans ?_ (by assumption))))).mono ?_; rintro e w1 ⟨rfl, hw1⟩; have q0 := Ext.keep (w' := w1) (by repeat (first | exact Ext.refl _ | assumption | refine Ext.alloc ?_ _ | refine Ext.drew ?_ | refine Ext.trans ?_ (by assumption))) q0; have q1 := Ext.keep (w' := w1) (by repeat (first | exact Ext.refl _ | assumption | refine Ext.alloc ?_ _ | refine Ext.drew ?_ | refine Ext.trans ?_ (by assumption))) q1)
  clear h0
  have hw : Ext w w1 := (by repeat (first | exact Ext.refl _ | assumption | refine Ext.alloc ?_ _ | refine Ext.drew ?_ | refine Ext.trans ?_ (by assumption)))
  obtain ⟨wb, hwb⟩ : ∃ wb : World, wb = w1 := ⟨_, rfl⟩
  subst hwb
  clear hw1
  refine (coom_impl _ n a c vs (hR.ext hw)).mono ?_
  rintro e w2 ⟨v, rfl, hv, hw2⟩
  obtain ⟨av, cv, rfl, _, hRs, hju⟩ := hv.fr
  clear hju
  have H := hide (lastOf_impl w2 av cv (elimO n vs (worL vs)) hRs (by have := elimO_len n vs (worL vs); omega))
  clear hv hRs
  go_wp2_with fail
  refine H.out.mono ?_
  rintro e w3 ⟨rfl, hw3⟩
  have hs := (hw.trans (hw2.trans hw3)).size
  have hO := OwnI.lit1 w3 (lastI (elimO n vs (worL vs)))
  go_wp2
  go_ret
  exact ⟨_, rfl, by rw [HV.out]; exact hO.base hs, hw.trans (hw2.trans (hw3.trans (Ext.new _ _)))⟩

set_option maxRecDepth 100000 in
set_option maxHeartbeats 2000000 in
theorem winI9 (w : World) (n : Nat) (a : Option Addr) (c : Nat) (vs : List Vt) (hR : RdV w a vs) (h0 : profOk n vs = true) :
    Calls Tryz.prog 17 #[.int .i64 9, .agg #[.int .i64 n, .slice a vs.length c]] w fun e w' => ∃ v, e = .returned v ∧ OwnI w' w.heap.size v (winL 9 n vs) ∧ Ext w w' := by
  have q0 := new0 w (.int .i64 n) [.slice a vs.length c] 29
  have q1 := new1 w (.int .i64 n) (.slice a vs.length c) [] 29
  have n1 : 1 ≤ n := by have := prof_size h0; omega
  have n2 : n ≤ 5 := by have := prof_size h0; omega
  have HV : Hid (winL 9 n vs = [lastI (elimO n vs (worP vs))]) := rfl
  have H0 := hide h0
  go_enter Tryz.func17, Tryz.ntmps17
  go_wp2_with (go_at_call 36; refine (prof_impl _ _ _ _ _ (hR.ext (by repeat (first | exact Ext.refl _ | assumption | refine Ext.alloc ?_ _ | refine Ext.drew ?_ | refine Ext.trans ?_ (by assumption))))).mono ?_; rintro e w1 ⟨rfl, hw1⟩; have q0 := Ext.keep (w' := w1) (by repeat (first | exact Ext.refl _ | assumption | refine Ext.alloc ?_ _ | refine Ext.drew ?_ | refine Ext.trans ?_ (by assumption))) q0; have q1 := Ext.keep (w' := w1) (by repeat (first | exact Ext.refl _ | assumption | refine Ext.alloc ?_ _ | refine Ext.drew ?_ | refine Ext.trans ?_ (by assumption))) q1)
  clear h0
  have hw : Ext w w1 := (by repeat (first | exact Ext.refl _ | assumption | refine Ext.alloc ?_ _ | refine Ext.drew ?_ | refine Ext.trans ?_ (by assumption)))
  obtain ⟨wb, hwb⟩ : ∃ wb : World, wb = w1 := ⟨_, rfl⟩
  subst hwb
  clear hw1
  refine (bald_impl _ n a c vs (hR.ext hw)).mono ?_
  rintro e w2 ⟨v, rfl, hv, hw2⟩
  obtain ⟨av, cv, rfl, _, hRs, hju⟩ := hv.fr
  clear hju
  have H := hide (lastOf_impl w2 av cv (elimO n vs (worP vs)) hRs (by have := elimO_len n vs (worP vs); omega))
  clear hv hRs
  go_wp2_with fail
  refine H.out.mono ?_
  rintro e w3 ⟨rfl, hw3⟩
  have hs := (hw.trans (hw2.trans hw3)).size
  have hO := OwnI.lit1 w3 (lastI (elimO n vs (worP vs)))
  go_wp2
  go_ret
  exact ⟨_, rfl, by rw [HV.out]; exact hO.base hs, hw.trans (hw2.trans (hw3.trans (Ext.new _ _)))⟩

set_option maxRecDepth 100000 in
set_option maxHeartbeats 2000000 in
theorem winI10 (w : World) (n : Nat) (a : Option Addr) (c : Nat) (vs : List Vt) (hR : RdV w a vs) (h0 : profOk n vs = true) :
    Calls Tryz.prog 17 #[.int .i64 10, .agg #[.int .i64 n, .slice a vs.length c]] w fun e w' => ∃ v, e = .returned v ∧ OwnI w' w.heap.size v (winL 10 n vs) ∧ Ext w w' := by
  have q0 := new0 w (.int .i64 n) [.slice a vs.length c] 29
  have q1 := new1 w (.int .i64 n) (.slice a vs.length c) [] 29
  have n1 : 1 ≤ n := by have := prof_size h0; omega
  have n2 : n ≤ 5 := by have := prof_size h0; omega
  have HV : Hid (winL 10 n vs = [bukO n vs]) := rfl
  have H0 := hide h0
  go_enter Tryz.func17, Tryz.ntmps17
  go_wp2_with (go_at_call 36; refine (prof_impl _ _ _ _ _ (hR.ext (by repeat (first | exact Ext.refl _ | assumption | refine Ext.alloc ?_ _ | refine Ext.drew ?_ | refine Ext.trans ?_ (by assumption))))).mono ?_; rintro e w1 ⟨rfl, hw1⟩; have q0 := Ext.keep (w' := w1) (by repeat (first | exact Ext.refl _ | assumption | refine Ext.alloc ?_ _ | refine Ext.drew ?_ | refine Ext.trans ?_ (by assumption))) q0; have q1 := Ext.keep (w' := w1) (by repeat (first | exact Ext.refl _ | assumption | refine Ext.alloc ?_ _ | refine Ext.drew ?_ | refine Ext.trans ?_ (by assumption))) q1)
  clear h0
  have hw : Ext w w1 := (by repeat (first | exact Ext.refl _ | assumption | refine Ext.alloc ?_ _ | refine Ext.drew ?_ | refine Ext.trans ?_ (by assumption)))
  obtain ⟨wb, hwb⟩ : ∃ wb : World, wb = w1 := ⟨_, rfl⟩
  subst hwb
  clear hw1
  refine (bukO_impl _ n a c vs (hR.ext hw)).mono ?_
  rintro e w2 ⟨rfl, hw2⟩
  have hs := (hw.trans hw2).size
  have hO := OwnI.lit1 w2 (bukO n vs)
  go_wp2
  go_ret
  exact ⟨_, rfl, by rw [HV.out]; exact hO.base hs, hw.trans (hw2.trans (Ext.new _ _))⟩

set_option maxRecDepth 100000 in
set_option maxHeartbeats 2000000 in
theorem winI11 (w : World) (n : Nat) (a : Option Addr) (c : Nat) (vs : List Vt) (hR : RdV w a vs) (h0 : profOk n vs = true) :
    Calls Tryz.prog 17 #[.int .i64 11, .agg #[.int .i64 n, .slice a vs.length c]] w fun e w' => ∃ v, e = .returned v ∧ OwnI w' w.heap.size v (winL 11 n vs) ∧ Ext w w' := by
  have q0 := new0 w (.int .i64 n) [.slice a vs.length c] 29
  have q1 := new1 w (.int .i64 n) (.slice a vs.length c) [] 29
  have n1 : 1 ≤ n := by have := prof_size h0; omega
  have n2 : n ≤ 5 := by have := prof_size h0; omega
  have HV : Hid (winL 11 n vs = schO n vs) := rfl
  have H0 := hide h0
  go_enter Tryz.func17, Tryz.ntmps17
  go_wp2_with (go_at_call 36; refine (prof_impl _ _ _ _ _ (hR.ext (by repeat (first | exact Ext.refl _ | assumption | refine Ext.alloc ?_ _ | refine Ext.drew ?_ | refine Ext.trans ?_ (by assumption))))).mono ?_; rintro e w1 ⟨rfl, hw1⟩; have q0 := Ext.keep (w' := w1) (by repeat (first | exact Ext.refl _ | assumption | refine Ext.alloc ?_ _ | refine Ext.drew ?_ | refine Ext.trans ?_ (by assumption))) q0; have q1 := Ext.keep (w' := w1) (by repeat (first | exact Ext.refl _ | assumption | refine Ext.alloc ?_ _ | refine Ext.drew ?_ | refine Ext.trans ?_ (by assumption))) q1)
  clear h0
  have hw : Ext w w1 := (by repeat (first | exact Ext.refl _ | assumption | refine Ext.alloc ?_ _ | refine Ext.drew ?_ | refine Ext.trans ?_ (by assumption)))
  obtain ⟨wb, hwb⟩ : ∃ wb : World, wb = w1 := ⟨_, rfl⟩
  subst hwb
  clear hw1
  refine (sch_impl _ n a c vs (hR.ext hw)).mono ?_
  rintro e w2 ⟨v, rfl, hv, hw2⟩
  have hs := hw.size
  go_wp2
  go_ret
  exact ⟨_, rfl, by rw [HV.out]; exact hv.base hs, hw.trans hw2⟩

set_option maxRecDepth 100000 in
set_option maxHeartbeats 2000000 in
theorem winI12 (w : World) (n : Nat) (a : Option Addr) (c : Nat) (vs : List Vt) (hR : RdV w a vs) (h0 : profOk n vs = true) :
    Calls Tryz.prog 17 #[.int .i64 12, .agg #[.int .i64 n, .slice a vs.length c]] w fun e w' => ∃ v, e = .returned v ∧ OwnI w' w.heap.size v (winL 12 n vs) ∧ Ext w w' := by
  have q0 := new0 w (.int .i64 n) [.slice a vs.length c] 29
  have q1 := new1 w (.int .i64 n) (.slice a vs.length c) [] 29
  have n1 : 1 ≤ n := by have := prof_size h0; omega
  have n2 : n ≤ 5 := by have := prof_size h0; omega
  have HV : Hid (winL 12 n vs = (prkO n vs).take 1) := rfl
  have H0 := hide h0
  go_enter Tryz.func17, Tryz.ntmps17
  go_wp2_with (go_at_call 36; refine (prof_impl _ _ _ _ _ (hR.ext (by repeat (first | exact Ext.refl _ | assumption | refine Ext.alloc ?_ _ | refine Ext.drew ?_ | refine Ext.trans ?_ (by assumption))))).mono ?_; rintro e w1 ⟨rfl, hw1⟩; have q0 := Ext.keep (w' := w1) (by repeat (first | exact Ext.refl _ | assumption | refine Ext.alloc ?_ _ | refine Ext.drew ?_ | refine Ext.trans ?_ (by assumption))) q0; have q1 := Ext.keep (w' := w1) (by repeat (first | exact Ext.refl _ | assumption | refine Ext.alloc ?_ _ | refine Ext.drew ?_ | refine Ext.trans ?_ (by assumption))) q1)
  clear h0
  have hw : Ext w w1 := (by repeat (first | exact Ext.refl _ | assumption | refine Ext.alloc ?_ _ | refine Ext.drew ?_ | refine Ext.trans ?_ (by assumption)))
  obtain ⟨wb, hwb⟩ : ∃ wb : World, wb = w1 := ⟨_, rfl⟩
  subst hwb
  clear hw1
  refine (prk_impl _ n a c vs (hR.ext hw)).mono ?_
  rintro e w2 ⟨v, rfl, hv, hw2⟩
  have hs := hw.size
  obtain ⟨y, ys, hys⟩ := rank1 (show (prkO n vs).length = n from prkO_full n1 n2 H0.out) n1
  have HY := hide hys
  rw [hys] at hv
  clear hys
  obtain ⟨av, cv, rfl, hcv, _, hRv, _⟩ := hv.val
  obtain ⟨b, off, rfl, c0⟩ := hRv.at_ (k := 0) (x := y) rfl
  rw [Nat.add_zero] at c0
  have hl : 0 < (y :: ys).length := by simp
  have hO := OwnI.lit1 w2 y
  clear hv hRv
  go_wp2
  go_ret
  exact ⟨_, rfl, by rw [HV.out, HY.out]; exact hO.base (hw.trans hw2).size, hw.trans (hw2.trans (Ext.new _ _))⟩

set_option maxRecDepth 100000 in
set_option maxHeartbeats 2000000 in
theorem winI13 (w : World) (n : Nat) (a : Option Addr) (c : Nat) (vs : List Vt) (hR : RdV w a vs) (h0 : profOk n vs = true) :
    Calls Tryz.prog 17 #[.int .i64 13, .agg #[.int .i64 n, .slice a vs.length c]] w fun e w' => ∃ v, e = .returned v ∧ OwnI w' w.heap.size v (winL 13 n vs) ∧ Ext w w' := by
  have q0 := new0 w (.int .i64 n) [.slice a vs.length c] 29
  have q1 := new1 w (.int .i64 n) (.slice a vs.length c) [] 29
  have n1 : 1 ≤ n := by have := prof_size h0; omega
  have n2 : n ≤ 5 := by have := prof_size h0; omega
  have HV : Hid (winL 13 n vs = (kemO n vs).take 1) := rfl
  have H0 := hide h0
  go_enter Tryz.func17, Tryz.ntmps17
  go_wp2_with (go_at_call 36; refine (prof_impl _ _ _ _ _ (hR.ext (by repeat (first | exact Ext.refl _ | assumption | refine Ext.alloc ?_ _ | refine Ext.drew ?_ | refine Ext.trans ?_ (by assumption))))).mono ?_; rintro e w1 ⟨rfl, hw1⟩; have q0 := Ext.keep (w' := w1) (by repeat (first | exact Ext.refl _ | assumption | refine Ext.alloc ?_ _ | refine Ext.drew ?_ | refine Ext.trans ?_ (by assumption))) q0; have q1 := Ext.keep (w' := w1) (by repeat (first | exact Ext.refl _ | assumption | refine Ext.alloc ?_ _ | refine Ext.drew ?_ | refine Ext.trans ?_ (by assumption))) q1)
  clear h0
  have hw : Ext w w1 := (by repeat (first | exact Ext.refl _ | assumption | refine Ext.alloc ?_ _ | refine Ext.drew ?_ | refine Ext.trans ?_ (by assumption)))
  obtain ⟨wb, hwb⟩ : ∃ wb : World, wb = w1 := ⟨_, rfl⟩
  subst hwb
  clear hw1
  refine (kem_impl _ n a c vs (hR.ext hw) H0.out).mono ?_
  rintro e w2 ⟨v, rfl, hv, hw2⟩
  have hs := hw.size
  obtain ⟨y, ys, hys⟩ := rank1 (show (kemO n vs).length = n from kemO_full n1 n2 H0.out) n1
  have HY := hide hys
  rw [hys] at hv
  clear hys
  obtain ⟨av, cv, rfl, hcv, _, hRv, _⟩ := hv.val
  obtain ⟨b, off, rfl, c0⟩ := hRv.at_ (k := 0) (x := y) rfl
  rw [Nat.add_zero] at c0
  have hl : 0 < (y :: ys).length := by simp
  have hO := OwnI.lit1 w2 y
  clear hv hRv
  go_wp2
  go_ret
  exact ⟨_, rfl, by rw [HV.out, HY.out]; exact hO.base (hw.trans hw2).size, hw.trans (hw2.trans (Ext.new _ _))⟩

set_option maxRecDepth 100000 in
set_option maxHeartbeats 2000000 in
theorem winI0 (w : World) (rule : Int) (n : Nat) (a : Option Addr) (c : Nat) (vs : List Vt) (hR : RdV w a vs) (h0 : profOk n vs = true) (hr : ¬ (1 ≤ rule ∧ rule ≤ 13)) :
    Calls Tryz.prog 17 #[.int .i64 rule, .agg #[.int .i64 n, .slice a vs.length c]] w fun e w' => ∃ v, e = .returned v ∧ OwnI w' w.heap.size v (winL rule n vs) ∧ Ext w w' := by
  have q0 := new0 w (.int .i64 n) [.slice a vs.length c] 29
  have q1 := new1 w (.int .i64 n) (.slice a vs.length c) [] 29
  have HV := hide (winL_out (n := n) (vs := vs) hr)
  have e1 : (rule == 1) = false := by rw [beq_eq_false_iff_ne]; omega
  have e2 : (rule == 2) = false := by rw [beq_eq_false_iff_ne]; omega
  have e3 : (rule == 3) = false := by rw [beq_eq_false_iff_ne]; omega
  have e4 : (rule == 4) = false := by rw [beq_eq_false_iff_ne]; omega
  have e5 : (rule == 5) = false := by rw [beq_eq_false_iff_ne]; omega
  have e6 : (rule == 6) = false := by rw [beq_eq_false_iff_ne]; omega
  have e7 : (rule == 7) = false := by rw [beq_eq_false_iff_ne]; omega
  have e8 : (rule == 8) = false := by rw [beq_eq_false_iff_ne]; omega
  have e9 : (rule == 9) = false := by rw [beq_eq_false_iff_ne]; omega
  have e10 : (rule == 10) = false := by rw [beq_eq_false_iff_ne]; omega
  have e11 : (rule == 11) = false := by rw [beq_eq_false_iff_ne]; omega
  have e12 : (rule == 12) = false := by rw [beq_eq_false_iff_ne]; omega
  have e13 : (rule == 13) = false := by rw [beq_eq_false_iff_ne]; omega
  clear hr
  go_enter Tryz.func17, Tryz.ntmps17
  go_wp2_with (go_at_call 36; refine (prof_impl _ _ _ _ _ (hR.ext (by repeat (first | exact Ext.refl _ | assumption | refine Ext.alloc ?_ _ | refine Ext.drew ?_ | refine Ext.trans ?_ (by assumption))))).mono ?_; rintro e w1 ⟨rfl, hw1⟩; have q0 := Ext.keep (w' := w1) (by repeat (first | exact Ext.refl _ | assumption | refine Ext.alloc ?_ _ | refine Ext.drew ?_ | refine Ext.trans ?_ (by assumption))) q0; have q1 := Ext.keep (w' := w1) (by repeat (first | exact Ext.refl _ | assumption | refine Ext.alloc ?_ _ | refine Ext.drew ?_ | refine Ext.trans ?_ (by assumption))) q1)
  go_ret
  exact ⟨_, rfl, by rw [HV.out]; exact OwnI.nil _ _, (by repeat (first | exact Ext.refl _ | assumption | refine Ext.alloc ?_ _ | refine Ext.drew ?_ | refine Ext.trans ?_ (by assumption)))⟩

set_option maxRecDepth 100000 in
theorem wins_impl_ok (w : World) (rule : Int) (n : Nat) (a : Option Addr) (c : Nat) (vs : List Vt) (hR : RdV w a vs) (h0 : profOk n vs = true) :
    Calls Tryz.prog 17 #[.int .i64 rule, .agg #[.int .i64 n, .slice a vs.length c]] w fun e w' => ∃ v, e = .returned v ∧ OwnI w' w.heap.size v (winL rule n vs) ∧ Ext w w' := by
  by_cases hr : 1 ≤ rule ∧ rule ≤ 13
  · have hr : rule = 1 ∨ rule = 2 ∨ rule = 3 ∨ rule = 4 ∨ rule = 5 ∨ rule = 6 ∨ rule = 7 ∨ rule = 8 ∨ rule = 9 ∨ rule = 10 ∨ rule = 11 ∨ rule = 12 ∨ rule = 13 := by omega
    rcases hr with rfl | rfl | rfl | rfl | rfl | rfl | rfl | rfl | rfl | rfl | rfl | rfl | rfl
    · exact winI1 w n a c vs hR h0
    · exact winI2 w n a c vs hR h0
    · exact winI3 w n a c vs hR h0
    · exact winI4 w n a c vs hR h0
    · exact winI5 w n a c vs hR h0
    · exact winI6 w n a c vs hR h0
    · exact winI7 w n a c vs hR h0
    · exact winI8 w n a c vs hR h0
    · exact winI9 w n a c vs hR h0
    · exact winI10 w n a c vs hR h0
    · exact winI11 w n a c vs hR h0
    · exact winI12 w n a c vs hR h0
    · exact winI13 w n a c vs hR h0
  · exact winI0 w rule n a c vs hR h0 hr

set_option maxRecDepth 100000 in
set_option maxHeartbeats 1000000 in
theorem wins_impl (w : World) (rule sz : Int) (a : Option Addr) (c : Nat) (vs : List Vt) (hR : RdV w a vs) :
    Calls Tryz.prog 17 #[.int .i64 rule, .agg #[.int .i64 sz, .slice a vs.length c]] w fun e w' => ∃ v, e = .returned v ∧ OwnI w' w.heap.size v (winO rule sz vs) ∧ Ext w w' := by
  cases h0 : profOk sz vs
  · have q0 := new0 w (.int .i64 sz) [.slice a vs.length c] 29
    have q1 := new1 w (.int .i64 sz) (.slice a vs.length c) [] 29
    go_enter Tryz.func17, Tryz.ntmps17
    go_wp2_with (go_at_call 36; refine (prof_impl _ _ _ _ _ (hR.ext (by repeat (first | exact Ext.refl _ | assumption | refine Ext.alloc ?_ _ | refine Ext.drew ?_ | refine Ext.trans ?_ (by assumption))))).mono ?_; rintro e w1 ⟨rfl, hw1⟩; have q0 := Ext.keep (w' := w1) (by repeat (first | exact Ext.refl _ | assumption | refine Ext.alloc ?_ _ | refine Ext.drew ?_ | refine Ext.trans ?_ (by assumption))) q0; have q1 := Ext.keep (w' := w1) (by repeat (first | exact Ext.refl _ | assumption | refine Ext.alloc ?_ _ | refine Ext.drew ?_ | refine Ext.trans ?_ (by assumption))) q1)
    go_ret
    exact ⟨_, rfl, by simp [winO, h0]; exact OwnI.nil _ _, (by repeat (first | exact Ext.refl _ | assumption | refine Ext.alloc ?_ _ | refine Ext.drew ?_ | refine Ext.trans ?_ (by assumption)))⟩
  · obtain ⟨n, rfl, n1, n2⟩ := prof_nat h0
    have h := wins_impl_ok w rule n a c vs hR h0
    rw [← winO_eq h0] at h
    exact h

set_option maxRecDepth 100000 in
theorem bkS_succ {q : Int → Int → Bool} {r : List Int} {j : Nat} {x : Int} (h : r[j]? = some x) : bkS q r (j + 1) = bkS q r j + (r.take j).countP (fun y => q x y) := by
  have : r.getD j 0 = x := by simp [List.getD, h]
  rw [bkS, this]
set_option maxRecDepth 100000 in
theorem bkS_le {q : Int → Int → Bool} {r : List Int} (hr : r.length ≤ 5) : ∀ j, j ≤ r.length → bkS q r j ≤ 5 * j
  | 0, _ => by simp [bkS]
  | j + 1, h => by
    obtain ⟨x, hx⟩ := at_of_lt (xs := r) (k := j) (by omega)
    have ih := bkS_le (q := q) hr j (by omega)
    have h2 := List.countP_le_length (p := fun y => q x y) (l := r.take j)
    rw [List.length_take] at h2
    rw [bkS_succ hx]
    omega
def leaI (vs : List Vt) (rows : List (List Int)) (k : Nat) : Int := if k = 0 then -1 else (lstT (slaN vs) rows k).2.1

end Go.Proofs.YtilcdnkkabmbfaaGreat
