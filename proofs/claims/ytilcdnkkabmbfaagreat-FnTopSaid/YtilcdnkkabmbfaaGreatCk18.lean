/- Winners by a rule, of the program. The ranking with the fewest pairs that are beaten backwards, of the spec. The first ranking with the least score by swaps, of the spec. The pairs that are kept, of the spec. The order that the kept pairs give, of the spec. Winners by a rule, of the spec. Votes that are appended one by one: where each ranking lies, and its count. -/
import Derived.Test.YtilcdnkkabmbfaaGreatCk13
import Derived.Test.YtilcdnkkabmbfaaGreatCk15
import Derived.Test.YtilcdnkkabmbfaaGreatCk17
import Derived.Test.YtilcdnkkabmbfaaGreatCk5
import Derived.Test.YtilcdnkkabmbfaaGreatCk7
import Derived.Test.YtilcdnkkabmbfaaGreatCk14
import Derived.Test.YtilcdnkkabmbfaaGreatCk2
import Derived.Test.YtilcdnkkabmbfaaGreatCk12
import Derived.Test.YtilcdnkkabmbfaaGreatCk11
import Derived.Test.YtilcdnkkabmbfaaGreatCk3
namespace Go.Proofs.YtilcdnkkabmbfaaGreat
open Go.RowKit

set_option maxRecDepth 100000 in
theorem rank1 {xs : List Int} {n : Nat} (h : xs.length = n) (n1 : 1 ≤ n) : ∃ y ys, xs = y :: ys := by
  cases xs with
  | nil => simp at h; omega
  | cons y ys => exact ⟨y, ys, rfl⟩
set_option maxRecDepth 100000 in
theorem prkO_full {n : Nat} {vs : List Vt} (_n1 : 1 ≤ n) (_n2 : n ≤ 5) (h0 : profOk n vs = true) : (prkO n vs).length = n := by unfold prkO; rw [if_pos h0, Int.toNat_natCast, prL_len]
set_option maxRecDepth 100000 in
theorem kemO_full {n : Nat} {vs : List Vt} (n1 : 1 ≤ n) (n2 : n ≤ 5) (h0 : profOk n vs = true) : (kemO n vs).length = n := by
  have e : kemO n vs = (lstR (kemV vs) n).1 := by simp [kemO, lstO, h0]
  rw [e]
  have := (rk_len ((allO_mem n1 n2).1 (lstR_mem (cost := kemV vs) n1 n2).1)).1
  omega

set_option maxRecDepth 100000 in
set_option maxHeartbeats 2000000 in
theorem winI1 (w : World) (n : Nat) (a : Option Addr) (c : Nat) (vs : List Vt) (hR : RdV w a vs) (h0 : profOk n vs = true) :
    Calls Tryz.prog 17 #[.int .i64 1, .agg #[.int .i64 n, .slice a vs.length c]] w fun e w' => ∃ v, e = .returned v ∧ OwnI w' w.heap.size v (winL 1 n vs) ∧ Ext w w' := by
  have q0 := new0 w (.int .i64 n) [.slice a vs.length c] 29
  have q1 := new1 w (.int .i64 n) (.slice a vs.length c) [] 29
  have n1 : 1 ≤ n := by have := prof_size h0; omega
  have n2 : n ≤ 5 := by have := prof_size h0; omega
  have HV : Hid (winL 1 n vs = bestL (rowL n (scoV pluW vs))) := rfl
  have H0 := hide h0
  go_enter Tryz.func17, Tryz.ntmps17
  go_wp2_with (go_at_call 36; refine (prof_impl _ _ _ _ _ (hR.ext (by repeat (first | exact Ext.refl _ | assumption | refine Ext.alloc ?_ _ | refine Ext.drew ?_ | refine Ext.trans ?_ (by assumption))))).mono ?_; rintro e w1 ⟨rfl, hw1⟩; have q0 := Ext.keep (w' := w1) (by repeat (first | exact Ext.refl _ | assumption | refine Ext.alloc ?_ _ | refine Ext.drew ?_ | refine Ext.trans ?_ (by assumption))) q0; have q1 := Ext.keep (w' := w1) (by repeat (first | exact Ext.refl _ | assumption | refine Ext.alloc ?_ _ | refine Ext.drew ?_ | refine Ext.trans ?_ (by assumption))) q1)
  clear h0
  have hw : Ext w w1 := (by repeat (first | exact Ext.refl _ | assumption | refine Ext.alloc ?_ _ | refine Ext.drew ?_ | refine Ext.trans ?_ (by assumption)))
  obtain ⟨wb, hwb⟩ : ∃ wb : World, wb = w1 := ⟨_, rfl⟩
  subst hwb
  clear hw1
  refine wp_region_X (by kernel_rfl) (by kernel_rfl) ?_
  repeat' (refine wpX_stepQ (fun K hK => ?_)
           go_simp
           try (rw [if_neg (by intro h; simp [undef] at h)])
           try split
           all_goals
             first
             | (refine hK _ ?_
                clear hK K)
             | (apply Exists.intro
                refine ⟨fun wq hwq => ?_, hK _ ?_⟩
                · have hcq := hwq.cellS
                  go_simp
                  first
                  | exact ⟨Ext.refl _, rfl⟩
                clear hK K))
  refine wpX_stepS rfl (by kernel_rfl) (fun K hK wq hwq => ?_)
  go_simp
  refine (plu_impl _ _).mono ?_
  rintro e w2 ⟨v, rfl, hv, hw2⟩
  refine ⟨hw2, hK _ _ ?_⟩
  clear hK K
  have hv := hv n rfl (inR_iff.2 (by omega))
  obtain ⟨av, cv, rfl, _, hRv, hju⟩ := hv.fr
  clear hju
  rw [rowL_len]
  refine wpX_stepS rfl (by kernel_rfl) (fun K hK wq hwq => ?_)
  go_simp
  refine (swin_impl _ n a av c cv vs pluW n2 (hR.ext (by repeat (first | exact Ext.refl _ | assumption | refine Ext.alloc ?_ _ | refine Ext.drew ?_ | refine Ext.trans ?_ (by assumption)))) (hRv.ext (by repeat (first | exact Ext.refl _ | assumption | refine Ext.alloc ?_ _ | refine Ext.drew ?_ | refine Ext.trans ?_ (by assumption)))) pluG H0.out).mono ?_
  rintro e w3 ⟨v3, rfl, hv3, hw3⟩
  refine ⟨hw3, hK _ _ ?_⟩
  clear hK K
  repeat' (refine wpX_stepQ (fun K hK => ?_)
           go_simp
           try (rw [if_neg (by intro h; simp [undef] at h)])
           try split
           all_goals
             first
             | (refine hK _ ?_
                clear hK K)
             | (apply Exists.intro
                refine ⟨fun wq hwq => ?_, hK _ ?_⟩
                · have hcq := hwq.cellS
                  go_simp
                  first
                  | exact ⟨Ext.refl _, rfl⟩
                clear hK K))
  refine wpX_nil (fun wz hwz => ?_)
  go_wp2
  go_ret
  exact ⟨_, rfl, by rw [HV.out]; exact (hv3.ext hwz).base (Ext.size (by repeat (first | exact Ext.refl _ | assumption | refine Ext.alloc ?_ _ | refine Ext.drew ?_ | refine Ext.trans ?_ (by assumption)))), (by repeat (first | exact Ext.refl _ | assumption | refine Ext.alloc ?_ _ | refine Ext.drew ?_ | refine Ext.trans ?_ (by assumption)))⟩

set_option maxRecDepth 100000 in
set_option maxHeartbeats 2000000 in
theorem winI2 (w : World) (n : Nat) (a : Option Addr) (c : Nat) (vs : List Vt) (hR : RdV w a vs) (h0 : profOk n vs = true) :
    Calls Tryz.prog 17 #[.int .i64 2, .agg #[.int .i64 n, .slice a vs.length c]] w fun e w' => ∃ v, e = .returned v ∧ OwnI w' w.heap.size v (winL 2 n vs) ∧ Ext w w' := by
  have q0 := new0 w (.int .i64 n) [.slice a vs.length c] 29
  have q1 := new1 w (.int .i64 n) (.slice a vs.length c) [] 29
  have n1 : 1 ≤ n := by have := prof_size h0; omega
  have n2 : n ≤ 5 := by have := prof_size h0; omega
  have HV : Hid (winL 2 n vs = bestL (rowL n (scoV (borW n) vs))) := rfl
  have H0 := hide h0
  go_enter Tryz.func17, Tryz.ntmps17
  go_wp2_with (go_at_call 36; refine (prof_impl _ _ _ _ _ (hR.ext (by repeat (first | exact Ext.refl _ | assumption | refine Ext.alloc ?_ _ | refine Ext.drew ?_ | refine Ext.trans ?_ (by assumption))))).mono ?_; rintro e w1 ⟨rfl, hw1⟩; have q0 := Ext.keep (w' := w1) (by repeat (first | exact Ext.refl _ | assumption | refine Ext.alloc ?_ _ | refine Ext.drew ?_ | refine Ext.trans ?_ (by assumption))) q0; have q1 := Ext.keep (w' := w1) (by repeat (first | exact Ext.refl _ | assumption | refine Ext.alloc ?_ _ | refine Ext.drew ?_ | refine Ext.trans ?_ (by assumption))) q1)
  clear h0
  have hw : Ext w w1 := (by repeat (first | exact Ext.refl _ | assumption | refine Ext.alloc ?_ _ | refine Ext.drew ?_ | refine Ext.trans ?_ (by assumption)))
  obtain ⟨wb, hwb⟩ : ∃ wb : World, wb = w1 := ⟨_, rfl⟩
  subst hwb
  clear hw1
  refine wp_region_X (by kernel_rfl) (by kernel_rfl) ?_
  repeat' (refine wpX_stepQ (fun K hK => ?_)
           go_simp
           try (rw [if_neg (by intro h; simp [undef] at h)])
           try split
           all_goals
             first
             | (refine hK _ ?_
                clear hK K)
             | (apply Exists.intro
                refine ⟨fun wq hwq => ?_, hK _ ?_⟩
                · have hcq := hwq.cellS
                  go_simp
                  first
                  | exact ⟨Ext.refl _, rfl⟩
                clear hK K))
  refine wpX_stepS rfl (by kernel_rfl) (fun K hK wq hwq => ?_)
  go_simp
  refine (bor_impl _ n n1 n2).mono ?_
  rintro e w2 ⟨v, rfl, hv, hw2⟩
  refine ⟨hw2, hK _ _ ?_⟩
  clear hK K
  obtain ⟨av, cv, rfl, _, hRv, hju⟩ := hv.fr
  clear hju
  rw [rowL_len]
  refine wpX_stepS rfl (by kernel_rfl) (fun K hK wq hwq => ?_)
  go_simp
  refine (swin_impl _ n a av c cv vs (borW n) n2 (hR.ext (by repeat (first | exact Ext.refl _ | assumption | refine Ext.alloc ?_ _ | refine Ext.drew ?_ | refine Ext.trans ?_ (by assumption)))) (hRv.ext (by repeat (first | exact Ext.refl _ | assumption | refine Ext.alloc ?_ _ | refine Ext.drew ?_ | refine Ext.trans ?_ (by assumption)))) (borG n2) H0.out).mono ?_
  rintro e w3 ⟨v3, rfl, hv3, hw3⟩
  refine ⟨hw3, hK _ _ ?_⟩
  clear hK K
  repeat' (refine wpX_stepQ (fun K hK => ?_)
           go_simp
           try (rw [if_neg (by intro h; simp [undef] at h)])
           try split
           all_goals
             first
             | (refine hK _ ?_
                clear hK K)
             | (apply Exists.intro
                refine ⟨fun wq hwq => ?_, hK _ ?_⟩
                · have hcq := hwq.cellS
                  go_simp
                  first
                  | exact ⟨Ext.refl _, rfl⟩
                clear hK K))
  refine wpX_nil (fun wz hwz => ?_)
  go_wp2
  go_ret
  exact ⟨_, rfl, by rw [HV.out]; exact (hv3.ext hwz).base (Ext.size (by repeat (first | exact Ext.refl _ | assumption | refine Ext.alloc ?_ _ | refine Ext.drew ?_ | refine Ext.trans ?_ (by assumption)))), (by repeat (first | exact Ext.refl _ | assumption | refine Ext.alloc ?_ _ | refine Ext.drew ?_ | refine Ext.trans ?_ (by assumption)))⟩

set_option maxRecDepth 100000 in
set_option maxHeartbeats 2000000 in
theorem winI3 (w : World) (n : Nat) (a : Option Addr) (c : Nat) (vs : List Vt) (hR : RdV w a vs) (h0 : profOk n vs = true) :
    Calls Tryz.prog 17 #[.int .i64 3, .agg #[.int .i64 n, .slice a vs.length c]] w fun e w' => ∃ v, e = .returned v ∧ OwnI w' w.heap.size v (winL 3 n vs) ∧ Ext w w' := by
  have q0 := new0 w (.int .i64 n) [.slice a vs.length c] 29
  have q1 := new1 w (.int .i64 n) (.slice a vs.length c) [] 29
  have n1 : 1 ≤ n := by have := prof_size h0; omega
  have n2 : n ≤ 5 := by have := prof_size h0; omega
  have HV : Hid (winL 3 n vs = bestL (rowL n (scoV (vetW n) vs))) := rfl
  have H0 := hide h0
  go_enter Tryz.func17, Tryz.ntmps17
  go_wp2_with (go_at_call 36; refine (prof_impl _ _ _ _ _ (hR.ext (by repeat (first | exact Ext.refl _ | assumption | refine Ext.alloc ?_ _ | refine Ext.drew ?_ | refine Ext.trans ?_ (by assumption))))).mono ?_; rintro e w1 ⟨rfl, hw1⟩; have q0 := Ext.keep (w' := w1) (by repeat (first | exact Ext.refl _ | assumption | refine Ext.alloc ?_ _ | refine Ext.drew ?_ | refine Ext.trans ?_ (by assumption))) q0; have q1 := Ext.keep (w' := w1) (by repeat (first | exact Ext.refl _ | assumption | refine Ext.alloc ?_ _ | refine Ext.drew ?_ | refine Ext.trans ?_ (by assumption))) q1)
  clear h0
  have hw : Ext w w1 := (by repeat (first | exact Ext.refl _ | assumption | refine Ext.alloc ?_ _ | refine Ext.drew ?_ | refine Ext.trans ?_ (by assumption)))
  obtain ⟨wb, hwb⟩ : ∃ wb : World, wb = w1 := ⟨_, rfl⟩
  subst hwb
  clear hw1
  refine wp_region_X (by kernel_rfl) (by kernel_rfl) ?_
  repeat' (refine wpX_stepQ (fun K hK => ?_)
           go_simp
           try (rw [if_neg (by intro h; simp [undef] at h)])
           try split
           all_goals
             first
             | (refine hK _ ?_
                clear hK K)
             | (apply Exists.intro
                refine ⟨fun wq hwq => ?_, hK _ ?_⟩
                · have hcq := hwq.cellS
                  go_simp
                  first
                  | exact ⟨Ext.refl _, rfl⟩
                clear hK K))
  refine wpX_stepS rfl (by kernel_rfl) (fun K hK wq hwq => ?_)
  go_simp
  refine (vet_impl _ n n1 n2).mono ?_
  rintro e w2 ⟨v, rfl, hv, hw2⟩
  refine ⟨hw2, hK _ _ ?_⟩
  clear hK K
  obtain ⟨av, cv, rfl, _, hRv, hju⟩ := hv.fr
  clear hju
  rw [rowL_len]
  refine wpX_stepS rfl (by kernel_rfl) (fun K hK wq hwq => ?_)
  go_simp
  refine (swin_impl _ n a av c cv vs (vetW n) n2 (hR.ext (by repeat (first | exact Ext.refl _ | assumption | refine Ext.alloc ?_ _ | refine Ext.drew ?_ | refine Ext.trans ?_ (by assumption)))) (hRv.ext (by repeat (first | exact Ext.refl _ | assumption | refine Ext.alloc ?_ _ | refine Ext.drew ?_ | refine Ext.trans ?_ (by assumption)))) (vetG n) H0.out).mono ?_
  rintro e w3 ⟨v3, rfl, hv3, hw3⟩
  refine ⟨hw3, hK _ _ ?_⟩
  clear hK K
  repeat' (refine wpX_stepQ (fun K hK => ?_)
           go_simp
           try (rw [if_neg (by intro h; simp [undef] at h)])
           try split
           all_goals
             first
             | (refine hK _ ?_
                clear hK K)
             | (apply Exists.intro
                refine ⟨fun wq hwq => ?_, hK _ ?_⟩
                · have hcq := hwq.cellS
                  go_simp
                  first
                  | exact ⟨Ext.refl _, rfl⟩
                clear hK K))
  refine wpX_nil (fun wz hwz => ?_)
  go_wp2
  go_ret
  exact ⟨_, rfl, by rw [HV.out]; exact (hv3.ext hwz).base (Ext.size (by repeat (first | exact Ext.refl _ | assumption | refine Ext.alloc ?_ _ | refine Ext.drew ?_ | refine Ext.trans ?_ (by assumption)))), (by repeat (first | exact Ext.refl _ | assumption | refine Ext.alloc ?_ _ | refine Ext.drew ?_ | refine Ext.trans ?_ (by assumption)))⟩

set_option maxRecDepth 100000 in
set_option maxHeartbeats 2000000 in
theorem winI4 (w : World) (n : Nat) (a : Option Addr) (c : Nat) (vs : List Vt) (hR : RdV w a vs) (h0 : profOk n vs = true) :
    Calls Tryz.prog 17 #[.int .i64 4, .agg #[.int .i64 n, .slice a vs.length c]] w fun e w' => ∃ v, e = .returned v ∧ OwnI w' w.heap.size v (winL 4 n vs) ∧ Ext w w' := by
  have q0 := new0 w (.int .i64 n) [.slice a vs.length c] 29
  have q1 := new1 w (.int .i64 n) (.slice a vs.length c) [] 29
  have n1 : 1 ≤ n := by have := prof_size h0; omega
  have n2 : n ≤ 5 := by have := prof_size h0; omega
  have HV : Hid (winL 4 n vs = bestL (copeO n vs)) := rfl
  have H0 := hide h0
  go_enter Tryz.func17, Tryz.ntmps17
  go_wp2_with (go_at_call 36; refine (prof_impl _ _ _ _ _ (hR.ext (by repeat (first | exact Ext.refl _ | assumption | refine Ext.alloc ?_ _ | refine Ext.drew ?_ | refine Ext.trans ?_ (by assumption))))).mono ?_; rintro e w1 ⟨rfl, hw1⟩; have q0 := Ext.keep (w' := w1) (by repeat (first | exact Ext.refl _ | assumption | refine Ext.alloc ?_ _ | refine Ext.drew ?_ | refine Ext.trans ?_ (by assumption))) q0; have q1 := Ext.keep (w' := w1) (by repeat (first | exact Ext.refl _ | assumption | refine Ext.alloc ?_ _ | refine Ext.drew ?_ | refine Ext.trans ?_ (by assumption))) q1)
  clear h0
  have hw : Ext w w1 := (by repeat (first | exact Ext.refl _ | assumption | refine Ext.alloc ?_ _ | refine Ext.drew ?_ | refine Ext.trans ?_ (by assumption)))
  obtain ⟨wb, hwb⟩ : ∃ wb : World, wb = w1 := ⟨_, rfl⟩
  subst hwb
  clear hw1
  refine (cope_impl _ n a c vs (hR.ext hw)).mono ?_
  rintro e w2 ⟨v, rfl, hv, hw2⟩
  obtain ⟨av, cv, rfl, _, hRs, hju⟩ := hv.fr
  clear hju
  have H := hide (gr_impl w2 av cv (copeO n vs) hRs (by have := copeO_len n vs; omega))
  clear hv hRs
  go_wp2_with fail
  refine H.out.mono ?_
  rintro e w3 ⟨v3, rfl, hv3, hw3⟩
  have hs := (hw.trans hw2).size
  go_wp2
  go_ret
  exact ⟨_, rfl, by rw [HV.out]; exact hv3.base hs, hw.trans (hw2.trans hw3)⟩

set_option maxRecDepth 100000 in
set_option maxHeartbeats 2000000 in
theorem winI5 (w : World) (n : Nat) (a : Option Addr) (c : Nat) (vs : List Vt) (hR : RdV w a vs) (h0 : profOk n vs = true) :
    Calls Tryz.prog 17 #[.int .i64 5, .agg #[.int .i64 n, .slice a vs.length c]] w fun e w' => ∃ v, e = .returned v ∧ OwnI w' w.heap.size v (winL 5 n vs) ∧ Ext w w' := by
  have q0 := new0 w (.int .i64 n) [.slice a vs.length c] 29
  have q1 := new1 w (.int .i64 n) (.slice a vs.length c) [] 29
  have n1 : 1 ≤ n := by have := prof_size h0; omega
  have n2 : n ≤ 5 := by have := prof_size h0; omega
  have HV : Hid (winL 5 n vs = bestL (maxiO n vs)) := rfl
  have H0 := hide h0
  go_enter Tryz.func17, Tryz.ntmps17
  go_wp2_with (go_at_call 36; refine (prof_impl _ _ _ _ _ (hR.ext (by repeat (first | exact Ext.refl _ | assumption | refine Ext.alloc ?_ _ | refine Ext.drew ?_ | refine Ext.trans ?_ (by assumption))))).mono ?_; rintro e w1 ⟨rfl, hw1⟩; have q0 := Ext.keep (w' := w1) (by repeat (first | exact Ext.refl _ | assumption | refine Ext.alloc ?_ _ | refine Ext.drew ?_ | refine Ext.trans ?_ (by assumption))) q0; have q1 := Ext.keep (w' := w1) (by repeat (first | exact Ext.refl _ | assumption | refine Ext.alloc ?_ _ | refine Ext.drew ?_ | refine Ext.trans ?_ (by assumption))) q1)
  clear h0
  have hw : Ext w w1 := (by repeat (first | exact Ext.refl _ | assumption | refine Ext.alloc ?_ _ | refine Ext.drew ?_ | refine Ext.trans ?_ (by assumption)))
  obtain ⟨wb, hwb⟩ : ∃ wb : World, wb = w1 := ⟨_, rfl⟩
  subst hwb
  clear hw1
  refine (maxi_impl _ n a c vs (hR.ext hw)).mono ?_
  rintro e w2 ⟨v, rfl, hv, hw2⟩
  obtain ⟨av, cv, rfl, _, hRs, hju⟩ := hv.fr
  clear hju
  have H := hide (gr_impl w2 av cv (maxiO n vs) hRs (by have := maxiO_len n vs; omega))
  clear hv hRs
  go_wp2_with fail
  refine H.out.mono ?_
  rintro e w3 ⟨v3, rfl, hv3, hw3⟩
  have hs := (hw.trans hw2).size
  go_wp2
  go_ret
  exact ⟨_, rfl, by rw [HV.out]; exact hv3.base hs, hw.trans (hw2.trans hw3)⟩

set_option maxRecDepth 100000 in
set_option maxHeartbeats 2000000 in
theorem winI6 (w : World) (n : Nat) (a : Option Addr) (c : Nat) (vs : List Vt) (hR : RdV w a vs) (h0 : profOk n vs = true) :
    Calls Tryz.prog 17 #[.int .i64 6, .agg #[.int .i64 n, .slice a vs.length c]] w fun e w' => ∃ v, e = .returned v ∧ OwnI w' w.heap.size v (winL 6 n vs) ∧ Ext w w' := by
  have q0 := new0 w (.int .i64 n) [.slice a vs.length c] 29
  have q1 := new1 w (.int .i64 n) (.slice a vs.length c) [] 29
  have n1 : 1 ≤ n := by have := prof_size h0; omega
  have n2 : n ≤ 5 := by have := prof_size h0; omega
  have HV : Hid (winL 6 n vs = [runO n vs]) := rfl
  have H0 := hide h0
  go_enter Tryz.func17, Tryz.ntmps17
  go_wp2_with (go_at_call 36; refine (prof_impl _ _ _ _ _ (hR.ext (by repeat (first | exact Ext.refl _ | assumption | refine Ext.alloc ?_ _ | refine Ext.drew ?_ | refine Ext.trans ?_ (by assumption))))).mono ?_; rintro e w1 ⟨rfl, hw1⟩; have q0 := Ext.keep (w' := w1) (by repeat (first | exact Ext.refl _ | assumption | refine Ext.alloc ?_ _ | refine Ext.drew ?_ | refine Ext.trans ?_ (by assumption))) q0; have q1 := Ext.keep (w' := w1) (by repeat (first | exact Ext.refl _ | assumption | refine Ext.alloc ?_ _ | refine Ext.drew ?_ | refine Ext.trans ?_ (by assumption))) q1)
  clear h0
  have hw : Ext w w1 := (by repeat (first | exact Ext.refl _ | assumption | refine Ext.alloc ?_ _ | refine Ext.drew ?_ | refine Ext.trans ?_ (by assumption)))
  obtain ⟨wb, hwb⟩ : ∃ wb : World, wb = w1 := ⟨_, rfl⟩
  subst hwb
  clear hw1
  refine (run_impl _ n a c vs (hR.ext hw)).mono ?_
  rintro e w2 ⟨rfl, hw2⟩
  have hs := (hw.trans hw2).size
  have hO := OwnI.lit1 w2 (runO n vs)
  go_wp2
  go_ret
  exact ⟨_, rfl, by rw [HV.out]; exact hO.base hs, hw.trans (hw2.trans (Ext.new _ _))⟩

set_option maxRecDepth 100000 in
set_option maxHeartbeats 2000000 in
theorem winI7 (w : World) (n : Nat) (a : Option Addr) (c : Nat) (vs : List Vt) (hR : RdV w a vs) (h0 : profOk n vs = true) :
    Calls Tryz.prog 17 #[.int .i64 7, .agg #[.int .i64 n, .slice a vs.length c]] w fun e w' => ∃ v, e = .returned v ∧ OwnI w' w.heap.size v (winL 7 n vs) ∧ Ext w w' := by
  have q0 := new0 w (.int .i64 n) [.slice a vs.length c] 29
  have q1 := new1 w (.int .i64 n) (.slice a vs.length c) [] 29
  have n1 : 1 ≤ n := by have := prof_size h0; omega
  have n2 : n ≤ 5 := by have := prof_size h0; omega
  have HV : Hid (winL 7 n vs = [lastI (elimO n vs (worF vs))]) := rfl
  have H0 := hide h0
  go_enter Tryz.func17, Tryz.ntmps17
  go_wp2_with (go_at_call 36; refine (prof_impl _ _ _ _ _ (hR.ext (by repeat (first | exact Ext.refl _ | assumption | refine Ext.alloc ?_ _ | refine Ext.drew ?_ | refine Ext.trans ?_ (by assumption))))).mono ?_; rintro e w1 ⟨rfl, hw1⟩; have q0 := Ext.keep (w' := w1) (by repeat (first | exact Ext.refl _ | assumption | refine Ext.alloc ?_ _ | refine Ext.drew ?_ | refine Ext.trans ?_ (by assumption))) q0; have q1 := Ext.keep (w' := w1) (by repeat (first | exact Ext.refl _ | assumption | refine Ext.alloc ?_ _ | refine Ext.drew ?_ | refine Ext.trans ?_ (by assumption))) q1)
  clear h0
  have hw : Ext w w1 := (by repeat (first | exact Ext.refl _ | assumption | refine Ext.alloc ?_ _ | refine Ext.drew ?_ | refine Ext.trans ?_ (by assumption)))
  obtain ⟨wb, hwb⟩ : ∃ wb : World, wb = w1 := ⟨_, rfl⟩
  subst hwb
  clear hw1
  refine (inst_impl _ n a c vs (hR.ext hw)).mono ?_
  rintro e w2 ⟨v, rfl, hv, hw2⟩
  obtain ⟨av, cv, rfl, _, hRs, hju⟩ := hv.fr
  clear hju
  have H := hide (lastOf_impl w2 av cv (elimO n vs (worF vs)) hRs (by have := elimO_len n vs (worF vs); omega))
  clear hv hRs
  go_wp2_with fail
  refine H.out.mono ?_
  rintro e w3 ⟨rfl, hw3⟩
  have hs := (hw.trans (hw2.trans hw3)).size
  have hO := OwnI.lit1 w3 (lastI (elimO n vs (worF vs)))
  go_wp2
  go_ret
  exact ⟨_, rfl, by rw [HV.out]; exact hO.base hs, hw.trans (hw2.trans (hw3.trans (Ext.new _ _)))⟩

set_option maxRecDepth 100000 in
set_option maxHeartbeats 2000000 in
theorem winI8 (w : World) (n : Nat) (a : Option Addr) (c : Nat) (vs : List Vt) (hR : RdV w a vs) (h0 : profOk n vs = true) :
    Calls Tryz.prog 17 #[.int .i64 8, .agg #[.int .i64 n, .slice a vs.length c]] w fun e w' => ∃ v, e = .returned v ∧ OwnI w' w.heap.size v (winL 8 n vs) ∧ Ext w w' := by
  have q0 := new0 w (.int .i64 n) [.slice a vs.length c] 29
  have q1 := new1 w (.int .i64 n) (.slice a vs.length c) [] 29
  have n1 : 1 ≤ n := by have := prof_size h0; omega
  have n2 : n ≤ 5 := by have := prof_size h0; omega
  have HV : Hid (winL 8 n vs = [lastI (elimO n vs (worL vs))]) := rfl
  have H0 := hide h0
  go_enter Tryz.func17, Tryz.ntmps17
  go_wp2_with (go_at_call 36; refine (prof_impl _ _ _ _ _ (hR.ext (by repeat (first | exact Ext.refl _ | assumption | refine Ext.alloc ?_ _ | refine Ext.drew ?_ | refine Ext.trans ?_ (by assumption))))).mono ?_; rintro e w1 ⟨rfl, hw1⟩; have q0 := Ext.keep (w' := w1) (by repeat (first | exact Ext.refl _ | assumption | refine Ext.alloc ?_ _ | refine Ext.drew ?_ | refine Ext.trans ?_ (by assumption))) q0; have q1 := Ext.keep (w' := w1) (by repeat (first | exact Ext.refl _ | assumption | refine Ext.alloc ?_ _ | refine Ext.drew ?_ | refine Ext.trans ?_ (by assumption))) q1)
  clear h0
  have hw : Ext w w1 := (by repeat (first | exact Ext.refl _ | assumption | refine Ext.alloc ?_ _ | refine Ext.drew ?_ | refine Ext.trans ?_ (by assumption)))
  obtain ⟨wb, hwb⟩ : ∃ wb : World, wb = w1 := ⟨_, rfl⟩
  subst hwb
  clear hw1
  refine (coom_impl _ n a c vs (hR.ext hw)).mono ?_
  rintro e w2 ⟨v, rfl, hv, hw2⟩
  obtain ⟨av, cv, rfl, _, hRs, hju⟩ := hv.fr
  clear hju
  have H := hide (lastOf_impl w2 av cv (elimO n vs (worL vs)) hRs (by have := elimO_len n vs (worL vs); omega))
  clear hv hRs
  go_wp2_with fail
  refine H.out.mono ?_
  rintro e w3 ⟨rfl, hw3⟩
  have hs := (hw.trans (hw2.trans hw3)).size
  have hO := OwnI.lit1 w3 (lastI (elimO n vs (worL vs)))
  go_wp2
  go_ret
  exact ⟨_, rfl, by rw [HV.out]; exact hO.base hs, hw.trans (hw2.trans (hw3.trans (Ext.new _ _)))⟩

set_option maxRecDepth 100000 in
set_option maxHeartbeats 2000000 in
theorem winI9 (w : World) (n : Nat) (a : Option Addr) (c : Nat) (vs : List Vt) (hR : RdV w a vs) (h0 : profOk n vs = true) :
    Calls Tryz.prog 17 #[.int .i64 9, .agg #[.int .i64 n, .slice a vs.length c]] w fun e w' => ∃ v, e = .returned v ∧ OwnI w' w.heap.size v (winL 9 n vs) ∧ Ext w w' := by
  have q0 := new0 w (.int .i64 n) [.slice a vs.length c] 29
  have q1 := new1 w (.int .i64 n) (.slice a vs.length c) [] 29
  have n1 : 1 ≤ n := by have := prof_size h0; omega
  have n2 : n ≤ 5 := by have := prof_size h0; omega
  have HV : Hid (winL 9 n vs = [lastI (elimO n vs (worP vs))]) := rfl
  have H0 := hide h0
  go_enter Tryz.func17, Tryz.ntmps17
  go_wp2_with (go_at_call 36; refine (prof_impl _ _ _ _ _ (hR.ext (by repeat (first | exact Ext.refl _ | assumption | refine Ext.alloc ?_ _ | refine Ext.drew ?_ | refine Ext.trans ?_ (by assumption))))).mono ?_; rintro e w1 ⟨rfl, hw1⟩; have q0 := Ext.keep (w' := w1) (by repeat (first | exact Ext.refl _ | assumption | refine Ext.alloc ?_ _ | refine Ext.drew ?_ | refine Ext.trans ?_ (by assumption))) q0; have q1 := Ext.keep (w' := w1) (by repeat (first | exact Ext.refl _ | assumption | refine Ext.alloc ?_ _ | refine Ext.drew ?_ | refine Ext.trans ?_ (by assumption))) q1)
  clear h0
  have hw : Ext w w1 := (by repeat (first | exact Ext.refl _ | assumption | refine Ext.alloc ?_ _ | refine Ext.drew ?_ | refine Ext.trans ?_ (by assumption)))
  obtain ⟨wb, hwb⟩ : ∃ wb : World, wb = w1 := ⟨_, rfl⟩
  subst hwb
  clear hw1
  refine (bald_impl _ n a c vs (hR.ext hw)).mono ?_
  rintro e w2 ⟨v, rfl, hv, hw2⟩
  obtain ⟨av, cv, rfl, _, hRs, hju⟩ := hv.fr
  clear hju
  have H := hide (lastOf_impl w2 av cv (elimO n vs (worP vs)) hRs (by have := elimO_len n vs (worP vs); omega))
  clear hv hRs
  go_wp2_with fail
  refine H.out.mono ?_
  rintro e w3 ⟨rfl, hw3⟩
  have hs := (hw.trans (hw2.trans hw3)).size
  have hO := OwnI.lit1 w3 (lastI (elimO n vs (worP vs)))
  go_wp2
  go_ret
  exact ⟨_, rfl, by rw [HV.out]; exact hO.base hs, hw.trans (hw2.trans (hw3.trans (Ext.new _ _)))⟩

set_option maxRecDepth 100000 in
set_option maxHeartbeats 2000000 in
theorem winI10 (w : World) (n : Nat) (a : Option Addr) (c : Nat) (vs : List Vt) (hR : RdV w a vs) (h0 : profOk n vs = true) :
    Calls Tryz.prog 17 #[.int .i64 10, .agg #[.int .i64 n, .slice a vs.length c]] w fun e w' => ∃ v, e = .returned v ∧ OwnI w' w.heap.size v (winL 10 n vs) ∧ Ext w w' := by
  have q0 := new0 w (.int .i64 n) [.slice a vs.length c] 29
  have q1 := new1 w (.int .i64 n) (.slice a vs.length c) [] 29
  have n1 : 1 ≤ n := by have := prof_size h0; omega
  have n2 : n ≤ 5 := by have := prof_size h0; omega
  have HV : Hid (winL 10 n vs = [bukO n vs]) := rfl
  have H0 := hide h0
  go_enter Tryz.func17, Tryz.ntmps17
  go_wp2_with (go_at_call 36; refine (prof_impl _ _ _ _ _ (hR.ext (by repeat (first | exact Ext.refl _ | assumption | refine Ext.alloc ?_ _ | refine Ext.drew ?_ | refine Ext.trans ?_ (by assumption))))).mono ?_; rintro e w1 ⟨rfl, hw1⟩; have q0 := Ext.keep (w' := w1) (by repeat (first | exact Ext.refl _ | assumption | refine Ext.alloc ?_ _ | refine Ext.drew ?_ | refine Ext.trans ?_ (by assumption))) q0; have q1 := Ext.keep (w' := w1) (by repeat (first | exact Ext.refl _ | assumption | refine Ext.alloc ?_ _ | refine Ext.drew ?_ | refine Ext.trans ?_ (by assumption))) q1)
  clear h0
  have hw : Ext w w1 := (by repeat (first | exact Ext.refl _ | assumption | refine Ext.alloc ?_ _ | refine Ext.drew ?_ | refine Ext.trans ?_ (by assumption)))
  obtain ⟨wb, hwb⟩ : ∃ wb : World, wb = w1 := ⟨_, rfl⟩
  subst hwb
  clear hw1
  refine (bukO_impl _ n a c vs (hR.ext hw)).mono ?_
  rintro e w2 ⟨rfl, hw2⟩
  have hs := (hw.trans hw2).size
  have hO := OwnI.lit1 w2 (bukO n vs)
  go_wp2
  go_ret
  exact ⟨_, rfl, by rw [HV.out]; exact hO.base hs, hw.trans (hw2.trans (Ext.new _ _))⟩

set_option maxRecDepth 100000 in
set_option maxHeartbeats 2000000 in
theorem winI11 (w : World) (n : Nat) (a : Option Addr) (c : Nat) (vs : List Vt) (hR : RdV w a vs) (h0 : profOk n vs = true) :
    Calls Tryz.prog 17 #[.int .i64 11, .agg #[.int .i64 n, .slice a vs.length c]] w fun e w' => ∃ v, e = .returned v ∧ OwnI w' w.heap.size v (winL 11 n vs) ∧ Ext w w' := by
  have q0 := new0 w (.int .i64 n) [.slice a vs.length c] 29
  have q1 := new1 w (.int .i64 n) (.slice a vs.length c) [] 29
  have n1 : 1 ≤ n := by have := prof_size h0; omega
  have n2 : n ≤ 5 := by have := prof_size h0; omega
  have HV : Hid (winL 11 n vs = schO n vs) := rfl
  have H0 := hide h0
  go_enter Tryz.func17, Tryz.ntmps17
  go_wp2_with (go_at_call 36; refine (prof_impl _ _ _ _ _ (hR.ext (by repeat (first | exact Ext.refl _ | assumption | refine Ext.alloc ?_ _ | refine Ext.drew ?_ | refine Ext.trans ?_ (by assumption))))).mono ?_; rintro e w1 ⟨rfl, hw1⟩; have q0 := Ext.keep (w' := w1) (by repeat (first | exact Ext.refl _ | assumption | refine Ext.alloc ?_ _ | refine Ext.drew ?_ | refine Ext.trans ?_ (by assumption))) q0; have q1 := Ext.keep (w' := w1) (by repeat (first | exact Ext.refl _ | assumption | refine Ext.alloc ?_ _ | refine Ext.drew ?_ | refine Ext.trans ?_ (by assumption))) q1)
  clear h0
  have hw : Ext w w1 := (by repeat (first | exact Ext.refl _ | assumption | refine Ext.alloc ?_ _ | refine Ext.drew ?_ | refine Ext.trans ?_ (by assumption)))
  obtain ⟨wb, hwb⟩ : ∃ wb : World, wb = w1 := ⟨_, rfl⟩
  subst hwb
  clear hw1
  refine (sch_impl _ n a c vs (hR.ext hw)).mono ?_
  rintro e w2 ⟨v, rfl, hv, hw2⟩
  have hs := hw.size
  go_wp2
  go_ret
  exact ⟨_, rfl, by rw [HV.out]; exact hv.base hs, hw.trans hw2⟩

set_option maxRecDepth 100000 in
set_option maxHeartbeats 2000000 in
theorem winI12 (w : World) (n : Nat) (a : Option Addr) (c : Nat) (vs : List Vt) (hR : RdV w a vs) (h0 : profOk n vs = true) :
    Calls Tryz.prog 17 #[.int .i64 12, .agg #[.int .i64 n, .slice a vs.length c]] w fun e w' => ∃ v, e = .returned v ∧ OwnI w' w.heap.size v (winL 12 n vs) ∧ Ext w w' := by
  have q0 := new0 w (.int .i64 n) [.slice a vs.length c] 29
  have q1 := new1 w (.int .i64 n) (.slice a vs.length c) [] 29
  have n1 : 1 ≤ n := by have := prof_size h0; omega
  have n2 : n ≤ 5 := by have := prof_size h0; omega
  have HV : Hid (winL 12 n vs = (prkO n vs).take 1) := rfl
  have H0 := hide h0
  go_enter Tryz.func17, Tryz.ntmps17
  go_wp2_with (go_at_call 36; refine (prof_impl _ _ _ _ _ (hR.ext (by repeat (first | exact Ext.refl _ | assumption | refine Ext.alloc ?_ _ | refine Ext.drew ?_ | refine Ext.trans ?_ (by assumption))))).mono ?_; rintro e w1 ⟨rfl, hw1⟩; have q0 := Ext.keep (w' := w1) (by repeat (first | exact Ext.refl _ | assumption | refine Ext.alloc ?_ _ | refine Ext.drew ?_ | refine Ext.trans ?_ (by assumption))) q0; have q1 := Ext.keep (w' := w1) (by repeat (first | exact Ext.refl _ | assumption | refine Ext.alloc ?_ _ | refine Ext.drew ?_ | refine Ext.trans ?_ (by assumption))) q1)
  clear h0
  have hw : Ext w w1 := (by repeat (first | exact Ext.refl _ | assumption | refine Ext.alloc ?_ _ | refine Ext.drew ?_ | refine Ext.trans ?_ (by assumption)))
  obtain ⟨wb, hwb⟩ : ∃ wb : World, wb = w1 := ⟨_, rfl⟩
  subst hwb
  clear hw1
  refine (prk_impl _ n a c vs (hR.ext hw)).mono ?_
  rintro e w2 ⟨v, rfl, hv, hw2⟩
  have hs := hw.size
  obtain ⟨y, ys, hys⟩ := rank1 (show (prkO n vs).length = n from prkO_full n1 n2 H0.out) n1
  have HY := hide hys
  rw [hys] at hv
  clear hys
  obtain ⟨av, cv, rfl, hcv, _, hRv, _⟩ := hv.val
  obtain ⟨b, off, rfl, c0⟩ := hRv.at_ (k := 0) (x := y) rfl
  rw [Nat.add_zero] at c0
  have hl : 0 < (y :: ys).length := by simp
  have hO := OwnI.lit1 w2 y
  clear hv hRv
  go_wp2
  go_ret
  exact ⟨_, rfl, by rw [HV.out, HY.out]; exact hO.base (hw.trans hw2).size, hw.trans (hw2.trans (Ext.new _ _))⟩

set_option maxRecDepth 100000 in
set_option maxHeartbeats 2000000 in
theorem winI13 (w : World) (n : Nat) (a : Option Addr) (c : Nat) (vs : List Vt) (hR : RdV w a vs) (h0 : profOk n vs = true) :
    Calls Tryz.prog 17 #[.int .i64 13, .agg #[.int .i64 n, .slice a vs.length c]] w fun e w' => ∃ v, e = .returned v ∧ OwnI w' w.heap.size v (winL 13 n vs) ∧ Ext w w' := by
  have q0 := new0 w (.int .i64 n) [.slice a vs.length c] 29
  have q1 := new1 w (.int .i64 n) (.slice a vs.length c) [] 29
  have n1 : 1 ≤ n := by have := prof_size h0; omega
  have n2 : n ≤ 5 := by have := prof_size h0; omega
  have HV : Hid (winL 13 n vs = (kemO n vs).take 1) := rfl
  have H0 := hide h0
  go_enter Tryz.func17, Tryz.ntmps17
  go_wp2_with (go_at_call 36; refine (prof_impl _ _ _ _ _ (hR.ext (by repeat (first | exact Ext.refl _ | assumption | refine Ext.alloc ?_ _ | refine Ext.drew ?_ | refine Ext.trans ?_ (by assumption))))).mono ?_; rintro e w1 ⟨rfl, hw1⟩; have q0 := Ext.keep (w' := w1) (by repeat (first | exact Ext.refl _ | assumption | refine Ext.alloc ?_ _ | refine Ext.drew ?_ | refine Ext.trans ?_ (by assumption))) q0; have q1 := Ext.keep (w' := w1) (by repeat (first | exact Ext.refl _ | assumption | refine Ext.alloc ?_ _ | refine Ext.drew ?_ | refine Ext.trans ?_ (by assumption))) q1)
  clear h0
  have hw : Ext w w1 := (by repeat (first | exact Ext.refl _ | assumption | refine Ext.alloc ?_ _ | refine Ext.drew ?_ | refine Ext.trans ?_ (by assumption)))
  obtain ⟨wb, hwb⟩ : ∃ wb : World, wb = w1 := ⟨_, rfl⟩
  subst hwb
  clear hw1
  refine (kem_impl _ n a c vs (hR.ext hw) H0.out).mono ?_
  rintro e w2 ⟨v, rfl, hv, hw2⟩
  have hs := hw.size
  obtain ⟨y, ys, hys⟩ := rank1 (show (kemO n vs).length = n from kemO_full n1 n2 H0.out) n1
  have HY := hide hys
  rw [hys] at hv
  clear hys
  obtain ⟨av, cv, rfl, hcv, _, hRv, _⟩ := hv.val
  obtain ⟨b, off, rfl, c0⟩ := hRv.at_ (k := 0) (x := y) rfl
  rw [Nat.add_zero] at c0
  have hl : 0 < (y :: ys).length := by simp
  have hO := OwnI.lit1 w2 y
  clear hv hRv
  go_wp2
  go_ret
  exact ⟨_, rfl, by rw [HV.out, HY.out]; exact hO.base (hw.trans hw2).size, hw.trans (hw2.trans (Ext.new _ _))⟩

set_option maxRecDepth 100000 in
set_option maxHeartbeats 2000000 in
theorem winI0 (w : World) (rule : Int) (n : Nat) (a : Option Addr) (c : Nat) (vs : List Vt) (hR : RdV w a vs) (h0 : profOk n vs = true) (hr : ¬ (1 ≤ rule ∧ rule ≤ 13)) :
    Calls Tryz.prog 17 #[.int .i64 rule, .agg #[.int .i64 n, .slice a vs.length c]] w fun e w' => ∃ v, e = .returned v ∧ OwnI w' w.heap.size v (winL rule n vs) ∧ Ext w w' := by
  have q0 := new0 w (.int .i64 n) [.slice a vs.length c] 29
  have q1 := new1 w (.int .i64 n) (.slice a vs.length c) [] 29
  have HV := hide (winL_out (n := n) (vs := vs) hr)
  have e1 : (rule == 1) = false := by rw [beq_eq_false_iff_ne]; omega
  have e2 : (rule == 2) = false := by rw [beq_eq_false_iff_ne]; omega
  have e3 : (rule == 3) = false := by rw [beq_eq_false_iff_ne]; omega
  have e4 : (rule == 4) = false := by rw [beq_eq_false_iff_ne]; omega
  have e5 : (rule == 5) = false := by rw [beq_eq_false_iff_ne]; omega
  have e6 : (rule == 6) = false := by rw [beq_eq_false_iff_ne]; omega
  have e7 : (rule == 7) = false := by rw [beq_eq_false_iff_ne]; omega
  have e8 : (rule == 8) = false := by rw [beq_eq_false_iff_ne]; omega
  have e9 : (rule == 9) = false := by rw [beq_eq_false_iff_ne]; omega
  have e10 : (rule == 10) = false := by rw [beq_eq_false_iff_ne]; omega
  have e11 : (rule == 11) = false := by rw [beq_eq_false_iff_ne]; omega
  have e12 : (rule == 12) = false := by rw [beq_eq_false_iff_ne]; omega
  have e13 : (rule == 13) = false := by rw [beq_eq_false_iff_ne]; omega
  clear hr
  go_enter Tryz.func17, Tryz.ntmps17
  go_wp2_with (go_at_call 36; refine (prof_impl _ _ _ _ _ (hR.ext (by repeat (first | exact Ext.refl _ | assumption | refine Ext.alloc ?_ _ | refine Ext.drew ?_ | refine Ext.trans ?_ (by assumption))))).mono ?_; rintro e w1 ⟨rfl, hw1⟩; have q0 := Ext.keep (w' := w1) (by repeat (first | exact Ext.refl _ | assumption | refine Ext.alloc ?_ _ | refine Ext.drew ?_ | refine Ext.trans ?_ (by assumption))) q0; have q1 := Ext.keep (w' := w1) (by repeat (first | exact Ext.refl _ | assumption | refine Ext.alloc ?_ _ | refine Ext.drew ?_ | refine Ext.trans ?_ (by assumption))) q1)
  go_ret
  exact ⟨_, rfl, by rw [HV.out]; exact OwnI.nil _ _, (by repeat (first | exact Ext.refl _ | assumption | refine Ext.alloc ?_ _ | refine Ext.drew ?_ | refine Ext.trans ?_ (by assumption)))⟩

set_option maxRecDepth 100000 in
theorem wins_impl_ok (w : World) (rule : Int) (n : Nat) (a : Option Addr) (c : Nat) (vs : List Vt) (hR : RdV w a vs) (h0 : profOk n vs = true) :
    Calls Tryz.prog 17 #[.int .i64 rule, .agg #[.int .i64 n, .slice a vs.length c]] w fun e w' => ∃ v, e = .returned v ∧ OwnI w' w.heap.size v (winL rule n vs) ∧ Ext w w' := by
  by_cases hr : 1 ≤ rule ∧ rule ≤ 13
  · have hr : rule = 1 ∨ rule = 2 ∨ rule = 3 ∨ rule = 4 ∨ rule = 5 ∨ rule = 6 ∨ rule = 7 ∨ rule = 8 ∨ rule = 9 ∨ rule = 10 ∨ rule = 11 ∨ rule = 12 ∨ rule = 13 := by omega
    rcases hr with rfl | rfl | rfl | rfl | rfl | rfl | rfl | rfl | rfl | rfl | rfl | rfl | rfl
    · exact winI1 w n a c vs hR h0
    · exact winI2 w n a c vs hR h0
    · exact winI3 w n a c vs hR h0
    · exact winI4 w n a c vs hR h0
    · exact winI5 w n a c vs hR h0
    · exact winI6 w n a c vs hR h0
    · exact winI7 w n a c vs hR h0
    · exact winI8 w n a c vs hR h0
    · exact winI9 w n a c vs hR h0
    · exact winI10 w n a c vs hR h0
    · exact winI11 w n a c vs hR h0
    · exact winI12 w n a c vs hR h0
    · exact winI13 w n a c vs hR h0
  · exact winI0 w rule n a c vs hR h0 hr

set_option maxRecDepth 100000 in
set_option maxHeartbeats 1000000 in
theorem wins_impl (w : World) (rule sz : Int) (a : Option Addr) (c : Nat) (vs : List Vt) (hR : RdV w a vs) :
    Calls Tryz.prog 17 #[.int .i64 rule, .agg #[.int .i64 sz, .slice a vs.length c]] w fun e w' => ∃ v, e = .returned v ∧ OwnI w' w.heap.size v (winO rule sz vs) ∧ Ext w w' := by
  cases h0 : profOk sz vs
  · have q0 := new0 w (.int .i64 sz) [.slice a vs.length c] 29
    have q1 := new1 w (.int .i64 sz) (.slice a vs.length c) [] 29
    go_enter Tryz.func17, Tryz.ntmps17
    go_wp2_with (go_at_call 36; refine (prof_impl _ _ _ _ _ (hR.ext (by repeat (first | exact Ext.refl _ | assumption | refine Ext.alloc ?_ _ | refine Ext.drew ?_ | refine Ext.trans ?_ (by assumption))))).mono ?_; rintro e w1 ⟨rfl, hw1⟩; have q0 := Ext.keep (w' := w1) (by repeat (first | exact Ext.refl _ | assumption | refine Ext.alloc ?_ _ | refine Ext.drew ?_ | refine Ext.trans ?_ (by assumption))) q0; have q1 := Ext.keep (w' := w1) (by repeat (first | exact Ext.refl _ | assumption | refine Ext.alloc ?_ _ | refine Ext.drew ?_ | refine Ext.trans ?_ (by assumption))) q1)
    go_ret
    exact ⟨_, rfl, by simp [winO, h0]; exact OwnI.nil _ _, (by repeat (first | exact Ext.refl _ | assumption | refine Ext.alloc ?_ _ | refine Ext.drew ?_ | refine Ext.trans ?_ (by assumption)))⟩
  · obtain ⟨n, rfl, n1, n2⟩ := prof_nat h0
    have h := wins_impl_ok w rule n a c vs hR h0
    rw [← winO_eq h0] at h
    exact h

set_option maxRecDepth 100000 in
theorem bkS_succ {q : Int → Int → Bool} {r : List Int} {j : Nat} {x : Int} (h : r[j]? = some x) : bkS q r (j + 1) = bkS q r j + (r.take j).countP (fun y => q x y) := by
  have : r.getD j 0 = x := by simp [List.getD, h]
  rw [bkS, this]
set_option maxRecDepth 100000 in
theorem bkS_le {q : Int → Int → Bool} {r : List Int} (hr : r.length ≤ 5) : ∀ j, j ≤ r.length → bkS q r j ≤ 5 * j
  | 0, _ => by simp [bkS]
  | j + 1, h => by
    obtain ⟨x, hx⟩ := at_of_lt (xs := r) (k := j) (by omega)
    have ih := bkS_le (q := q) hr j (by omega)
    have h2 := List.countP_le_length (p := fun y => q x y) (l := r.take j)
    rw [List.length_take] at h2
    rw [bkS_succ hx]
    omega
def leaI (vs : List Vt) (rows : List (List Int)) (k : Nat) : Int := if k = 0 then -1 else (lstT (slaN vs) rows k).2.1

open Go.RowKit

set_option maxRecDepth 100000 in
theorem hasI_place (xs : List Int) (x : Int) : (placeI xs x < 0) ↔ hasI xs x = false := by
  unfold placeI hasI findI
  cases h : xs.findIdx? (fun y => x == y) with
  | none =>
    rw [List.findIdx?_eq_none_iff] at h
    simp only [List.contains_eq_mem]
    constructor
    · intro _
      rw [decide_eq_false_iff_not]
      intro hm
      have := h x hm
      simp at this
    · intro _; decide
  | some i =>
    rw [List.findIdx?_eq_some_iff_getElem] at h
    obtain ⟨hk, h1, _⟩ := h
    simp only [List.contains_eq_mem]
    constructor
    · intro h2; omega
    · intro h2
      rw [decide_eq_false_iff_not] at h2
      rw [beq_iff_eq] at h1
      exact absurd (h1 ▸ List.getElem_mem hk) h2

set_option maxRecDepth 100000 in
theorem insD_rows {vs : List Vt} {es : List RowE} {xss : List (List Int)} {x : List Int} {m : Nat} {e : RowE} (hmap : es.map RowE.xs = sortD (margP vs) xss) (hle : ∀ y ∈ es.take m, margP vs x ≤ margP vs y.xs) (he : m = es.length ∨ ∃ y, es[m]? = some y ∧ margP vs y.xs < margP vs x) (hx : e.xs = x) :
    (es.take m ++ e :: es.drop m).map RowE.xs = sortD (margP vs) (xss ++ [x]) := by
  rw [sortD_snoc, ← hmap, List.map_append, List.map_cons, List.map_take, List.map_drop, hx]
  refine (insD_count (fun y hy => ?_) ?_ ?_).symm
  · rw [← List.map_take] at hy
    obtain ⟨e', he', rfl⟩ := List.mem_map.1 hy
    exact hle e' he'
  · rcases he with he | ⟨y, hy, hlt⟩
    · exact .inl (by rw [List.length_map]; exact he)
    · exact .inr ⟨y.xs, by rw [List.getElem?_map, hy]; rfl, hlt⟩
  · rw [hmap]; exact sortD_desc _ _
set_option maxRecDepth 100000 in
theorem marginO_in {n : Nat} {vs : List Vt} (h0 : profOk n vs = true) {i j : Nat} (hi : i < n) (hj : j < n) : marginO n vs i j = marginV vs i j := by
  have h1 : hasB n i = true := inR_iff.2 (by omega)
  have h2 : hasB n j = true := inR_iff.2 (by omega)
  simp [marginO, h0, h1, h2]
/-- What the list of pairs holds. -/
def PrsS (w : World) (B : Nat) (v : Value) (xss : List (List Int)) : Prop := ∃ es g c, v = .slice (some ⟨g, 0, none⟩) es.length c ∧ es.length ≤ c ∧ LstE w B v es ∧ es.map RowE.xs = xss
set_option maxRecDepth 100000 in
theorem PrsS.ext {w w' : World} {B : Nat} {v : Value} {xss : List (List Int)} (h : PrsS w B v xss) (hw : Ext w w') : PrsS w' B v xss := by
  obtain ⟨es, g, c, hv, hc, hl, hm⟩ := h
  exact ⟨es, g, c, hv, hc, hl.ext hw, hm⟩
set_option maxRecDepth 100000 in
theorem PrsS.made0 (w : World) : PrsS (w.alloc (.cells #[] 36)) w.heap.size (.slice (some ⟨w.heap.size, 0, none⟩) 0 0) [] := ⟨[], _, 0, rfl, Nat.le_refl _, LstE.made0 w, rfl⟩
set_option maxRecDepth 100000 in
theorem PrsS.of {w : World} {B : Nat} {v : Value} {es : List RowE} {xss : List (List Int)} (h : LstE w B v es) (hne : es ≠ []) (hm : es.map RowE.xs = xss) : PrsS w B v xss := by
  have h1 := h
  obtain ⟨hr, _⟩ := h
  rcases hr.two with ⟨rfl, he⟩ | ⟨g, c, rfl, hc, hg, hB⟩
  · exact absurd he hne
  · exact ⟨es, g, c, rfl, hc, h1, hm⟩

set_option maxRecDepth 100000 in
theorem RdE.grown {w w' : World} {g : Nat} {es : List RowE} {row : Option Nat} (h : RdE w (some ⟨g, 0, none⟩) es) (hg : w.grownBy w' row) (hr : row ≠ some g) : RdE w' (some ⟨g, 0, none⟩) es := fun hne => by
  obtain ⟨b, off, e, hc⟩ := h hne
  injection e with e
  injection e with e1 e2
  subst e1 e2
  refine ⟨g, 0, rfl, fun j x hx => ?_⟩
  have := hc j x hx
  exact (World.cell?_of_block (w := w) (hg.block g (World.block_lt_of_cell? w _ this) (fun e => hr e.symm))).trans this

set_option maxRecDepth 100000 in
theorem hasI_left {n : Nat} {out : List Int} {i : Nat} (hi : i < n) : hasI (leftL n out) (i : Int) = !hasI out (i : Int) := by
  cases h : hasI out (i : Int)
  · rw [Bool.not_false]
    exact hasI_iff.2 (leftL_mem.2 ⟨i, hi, (fun hm => by rw [hasI_iff.2 hm] at h; cases h), rfl⟩)
  · rw [Bool.not_true]
    cases h2 : hasI (leftL n out) (i : Int)
    · rfl
    · obtain ⟨k, _, hno, hk⟩ := leftL_mem.1 (hasI_iff.1 h2)
      rw [← hk] at hno
      exact absurd (hasI_iff.1 h) hno
set_option maxRecDepth 100000 in
theorem free_eq {n : Nat} {kept : List (List Int)} {out : List Int} (hk : ∀ x ∈ kept, PairN n x) (j : Int) : freeB kept (leftL n out) j = kept.all (fun x => !(p1 x == j) || hasI out (p0 x)) := by
  unfold freeB
  rw [List.not_any_eq_all_not]
  have key : ∀ x ∈ kept, (!(p1 x == j && hasI (leftL n out) (p0 x))) = (!(p1 x == j) || hasI out (p0 x)) := fun x hx => by
    obtain ⟨a, b, ha, hb, rfl⟩ := hk x hx
    show (!((b : Int) == j && hasI (leftL n out) (a : Int))) = (!((b : Int) == j) || hasI out (a : Int))
    rw [hasI_left ha, Bool.not_and, Bool.not_not]
  rw [Bool.eq_iff_iff, List.all_eq_true, List.all_eq_true]
  exact ⟨fun h x hx => by rw [← key x hx]; exact h x hx, fun h x hx => by rw [key x hx]; exact h x hx⟩
set_option maxRecDepth 100000 in
theorem prk_len_at {kept : List (List Int)} {n k : Nat} : (prL kept n k).length = k := prL_len kept n k

open Go.RowKit

def vtL (es : List (RowE × Int)) : List Value := es.flatMap (fun e => [rowV e.1, .int .i64 e.2])
set_option maxRecDepth 100000 in
theorem vtL_len : ∀ es : List (RowE × Int), (vtL es).length = es.length * 2
  | [] => rfl
  | e :: es => by
    have ih := vtL_len es
    unfold vtL at ih ⊢
    rw [List.flatMap_cons, List.length_append, ih, List.length_cons]
    simp; omega
set_option maxRecDepth 100000 in
theorem vtL_snoc (es : List (RowE × Int)) (e : RowE × Int) : vtL (es ++ [e]) = vtL es ++ [rowV e.1, .int .i64 e.2] := by simp [vtL]
set_option maxRecDepth 100000 in
theorem vtL_at : ∀ {es : List (RowE × Int)} {k : Nat} {e : RowE × Int}, es[k]? = some e → (vtL es)[k * 2]? = some (rowV e.1) ∧ (vtL es)[k * 2 + 1]? = some (.int .i64 e.2)
  | [], k, e, h => by simp at h
  | x :: es, 0, e, h => by
    simp at h
    subst h
    exact ⟨rfl, rfl⟩
  | x :: es, k + 1, e, h => by
    have ih := vtL_at (es := es) (k := k) (e := e) (by simpa using h)
    have e1 : vtL (x :: es) = rowV x.1 :: .int .i64 x.2 :: vtL es := rfl
    rw [e1, show (k + 1) * 2 = k * 2 + 1 + 1 by omega, List.getElem?_cons_succ, List.getElem?_cons_succ, List.getElem?_cons_succ, List.getElem?_cons_succ]
    exact ih
/-- v is a list of votes of the call's own. -/
def RowsV (w : World) (B : Nat) (v : Value) (es : List (RowE × Int)) : Prop := w.ownsRow B 55 2 v es.length (vtL es)
set_option maxRecDepth 100000 in
theorem RowsV.nil (w : World) (B : Nat) : RowsV w B (.slice none 0 0) [] := World.ownsRow_nil _ _ _ _
set_option maxRecDepth 100000 in
theorem RowsV.ext {w w' : World} {B : Nat} {v : Value} {es : List (RowE × Int)} (h : RowsV w B v es) (hw : Ext w w') : RowsV w' B v es := ownsRow_ext h hw
set_option maxRecDepth 100000 in
theorem RowsV.base {w : World} {B B' : Nat} {v : Value} {es : List (RowE × Int)} (h : RowsV w B v es) (hb : B' ≤ B) : RowsV w B' v es := ownsRow_base h hb
set_option maxRecDepth 100000 in
theorem ownV_ne {w : World} {B B' : Nat} {v u : Value} {xs : List Int} {es : List (RowE × Int)} (h1 : OwnI w B' u xs) (h : RowsV w B v es) : u.ownBlock = none ∨ u.ownBlock ≠ v.ownBlock := by
  cases hu : u.ownBlock with
  | none => exact .inl rfl
  | some k =>
    refine .inr (fun hv => ?_)
    obtain ⟨_, h⟩ := h
    obtain ⟨_, h1⟩ := h1
    rcases h1 with ⟨e1, _⟩ | ⟨g, cap, cur, e1, _, hh, _⟩
    · rw [e1] at hu; cases hu
    · rcases h with ⟨rfl, _⟩ | ⟨g', cap', cur', rfl, _, hh', _⟩
      · cases hv
      · rw [e1] at hu
        simp only [Value.ownBlock, Option.some.injEq] at hu hv
        subst hu
        subst hv
        rw [hh] at hh'
        injection hh' with hh'
        injection hh' with _ hh' _
        exact absurd hh' (by decide)
set_option maxRecDepth 100000 in
theorem rowsV_ne {w : World} {B B' : Nat} {v : Value} {es : List (RowE × Int)} {fs : List RowE} (h : RowsV w B v es) (hf : EntE w B' fs) : ∀ e ∈ fs, (rowV e).ownBlock = none ∨ (rowV e).ownBlock ≠ v.ownBlock := fun e he => ownV_ne (hf.1 e he) h
/-- Votes of the call's own, with rankings of the call's own. -/
def LstV (w : World) (B : Nat) (v : Value) (es : List (RowE × Int)) : Prop := RowsV w B v es ∧ EntE w B (es.map Prod.fst)
set_option maxRecDepth 100000 in
theorem LstV.nil (w : World) (B : Nat) : LstV w B (.slice none 0 0) [] := ⟨RowsV.nil _ _, EntE.nil _ _⟩
set_option maxRecDepth 100000 in
theorem LstV.ext {w w' : World} {B : Nat} {v : Value} {es : List (RowE × Int)} (h : LstV w B v es) (hw : Ext w w') : LstV w' B v es := ⟨h.1.ext hw, h.2.ext hw⟩
set_option maxRecDepth 100000 in
theorem LstV.base {w : World} {B B' : Nat} {v : Value} {es : List (RowE × Int)} (h : LstV w B v es) (hb : B' ≤ B) : LstV w B' v es := ⟨h.1.base hb, h.2.base hb⟩
set_option maxRecDepth 100000 in
theorem LstV.only {w w' : World} {B g : Nat} {v : Value} {es : List (RowE × Int)} (h : LstV w B v es) (hg : g < B) (hw : Only g w w') : LstV w' B v es := by
  refine ⟨World.ownsRow.kept h.1 hw ?_, h.2.only hw (fun e he hk => ?_)⟩
  · cases hv : v.ownBlock with
    | none => exact .inl rfl
    | some k =>
      refine .inr (fun e => ?_)
      injection e with e
      have := (World.ownsRow.lt h.1 k hv).1
      omega
  · have := (h.2.lt e he g hk).1
    omega
set_option maxRecDepth 100000 in
theorem LstV.push {wr w1 w2 wa w3 : World} {H : Nat} {v v' : Value} {es : List (RowE × Int)} {u : RowE} {k : Int} (h : LstV wr H v es) (hH : H ≤ wr.heap.size) (h1 : Ext wr w1) (hu : OwnI w2 w1.heap.size (rowV u) u.xs) (h2 : Ext w2 wa) (hE : Ext wr wa)
    (h3 : RowsV w3 H v' (es ++ [(u, k)])) (hg : wa.grownBy w3 v.ownBlock) : LstV w3 H v' (es ++ [(u, k)]) := by
  refine ⟨h3, ?_⟩
  have hv := h.1.ext hE
  have he := h.2.ext hE
  have hua := hu.ext h2
  rw [List.map_append]
  refine (he.grown hg (rowsV_ne hv he)).add ((hua.keepRow hg (ownV_ne hua hv)).base (Nat.le_trans hH h1.size)) (fun e' he' b hb hb2 => ?_)
  have c1 := (h.2.lt e' he' b hb).2
  have c2 := (World.ownsRow.lt hu b hb2).1
  have c3 := h1.size
  omega
set_option maxRecDepth 100000 in
theorem LstV.add {wa w3 : World} {H : Nat} {v v' : Value} {es : List (RowE × Int)} {u : RowE} {k : Int} (h : LstV wa H v es) (hu : OwnI wa H (rowV u) u.xs) (hfar : ∀ e ∈ es.map Prod.fst, ∀ b, (rowV e).ownBlock = some b → (rowV u).ownBlock ≠ some b)
    (h3 : RowsV w3 H v' (es ++ [(u, k)])) (hg : wa.grownBy w3 v.ownBlock) : LstV w3 H v' (es ++ [(u, k)]) := by
  refine ⟨h3, ?_⟩
  rw [List.map_append]
  exact (h.2.grown hg (rowsV_ne h.1 h.2)).add (hu.keepRow hg (ownV_ne hu h.1)) hfar
set_option maxRecDepth 100000 in
/-- What the votes are, as a value. -/
theorem RowsV.val {w : World} {B : Nat} {v : Value} {es : List (RowE × Int)} (h : RowsV w B v es) : (v = .slice none 0 0 ∧ es = []) ∨ ∃ g c, v = .slice (some ⟨g, 0, none⟩) es.length c ∧ es.length ≤ c ∧ B ≤ g ∧ BlkF w g (es.length * 2) (fun o => (vtL es).getD o undef) := by
  have h0 := h
  obtain ⟨_, h2⟩ := h
  rcases h2 with ⟨rfl, h2⟩ | ⟨g, cap, cur, rfl, hg, hh, hc, hm, hs, ht⟩
  · exact .inl ⟨rfl, List.length_eq_zero_iff.1 h2⟩
  · have hl : g < w.heap.size := (World.ownsRow.lt h0 g rfl).2
    refine .inr ⟨g, cap, rfl, hc, hg, hl, fun o => World.ownsRow.frozenAt h0 o, fun o ho => ?_⟩
    rw [World.ownsRow.cellAt h0 o (by omega)]
    obtain ⟨x, hx⟩ := at_of_lt (xs := vtL es) (k := o) (by rw [vtL_len]; exact ho)
    rw [hx]; simp [List.getD, hx]
def vtsOf (es : List (RowE × Int)) : List Vt := es.map (fun e => (e.1.xs, e.2))
set_option maxRecDepth 100000 in
theorem RowsV.rd {w : World} {B B' : Nat} {a : Option Addr} {n c : Nat} {es : List (RowE × Int)} (h : RowsV w B (.slice a n c) es) (hf : EntE w B' (es.map Prod.fst)) : RdV w a (vtsOf es) := fun hne => by
  have hne' : es ≠ [] := fun e => hne (by rw [e]; rfl)
  rcases h.val with ⟨_, he⟩ | ⟨g, c', hv, hc, hg, hB⟩
  · exact absurd he hne'
  · injection hv with h1 h2 h3
    subst h1
    refine ⟨g, 0, rfl, fun j x hx => ?_⟩
    unfold vtsOf at hx
    rw [List.getElem?_map, Option.map_eq_some_iff] at hx
    obtain ⟨e, he, rfl⟩ := hx
    have hl := lt_of_at he
    obtain ⟨c0, c1⟩ := vtL_at he
    have hO := hf.1 e.1 (List.mem_map_of_mem (List.mem_of_getElem? he))
    obtain ⟨a2, c2, hv2, hc2, _, hR2, _⟩ := hO.val
    unfold rowV at hv2
    injection hv2 with e1 e2 e3
    refine ⟨e.1.a, e.1.c, ?_, ?_, by rw [e3]; exact hc2, by rw [e1]; exact hR2⟩
    · rw [Nat.zero_add, hB.cell _ (by omega), ← e2]
      simp [List.getD, c0, rowV]
    · rw [Nat.zero_add, hB.cell _ (by omega)]
      simp [List.getD, c1]
set_option maxRecDepth 100000 in
theorem run_appV {w : World} (B : Nat) (ty : TypeId) (v : Value) (es : List (RowE × Int)) (e : RowE × Int) (gx : Nat) (hown : RowsV w B v es) (hB : B ≤ w.heap.size) (hc0 : w.cell? ⟨gx, 0, none⟩ = some (rowV e.1)) (hc1 : w.cell? ⟨gx, 1, none⟩ = some (.int .i64 e.2)) (hlen : es.length ≤ 100000) :
    ∃ v' w', (Builtin.append_ #[27, 27] ty #[v, .slice (some ⟨gx, 0, none⟩) 1 1]).run Tryz.prog w = .ok v' w' ∧ RowsV w' B v' (es ++ [e]) ∧ w.grownBy w' v.ownBlock ∧ Fresh w v v' := by
  obtain ⟨i0, hi, hz0, hz1, hz2⟩ := info_parts info_v
  obtain ⟨v', w', hr, h1, h2, h3⟩ := run_append_any (P := Tryz.prog) w B 27 ty 55 i0 (.agg #[.slice none 0 0, .int .i64 0]) 2 32 Tryz.underlying27 hi hz0 hz1 hz2 rfl (by decide) v es.length _ hown (some ⟨gx, 0, none⟩) 1 1 [rowV e.1, .int .i64 e.2] rfl
    (fun _ => ⟨_, rfl, fun j u hj => by
      match j, hj with
      | 0, hj => simp at hj; subst hj; simpa [Addr.add] using hc0
      | 1, hj => simp at hj; subst hj; simpa [Addr.add] using hc1⟩)
    (fun u hu => by
      simp at hu
      rcases hu with rfl | rfl <;> rfl) (by unfold maxLen; omega) (by omega) hB
  refine ⟨v', w', hr, ?_, h2, h3⟩
  unfold RowsV
  rw [vtL_snoc, List.length_append]
  exact h1
set_option maxRecDepth 100000 in
theorem oper_appV {o : Oper} {a : Act} {K : World → Act → Prop} (B : Nat) (w3 : World) (s x : Operand)
    (ho : o.op = .call { callee := .builtin .append, args := #[s, x], argTypes := #[27, 27] }) (v : Value) (es : List (RowE × Int)) (e : RowE × Int) (gx : Nat) (hs : a.eval s = v) (hown : RowsV w3 B v es) (hB : B ≤ w3.heap.size)
    (hx : a.eval x = .slice (some ⟨gx, 0, none⟩) 1 1) (hc0 : w3.cell? ⟨gx, 0, none⟩ = some (rowV e.1)) (hc1 : w3.cell? ⟨gx, 1, none⟩ = some (.int .i64 e.2)) (hlen : es.length ≤ 100000)
    (h : ∀ v' w', RowsV w' B v' (es ++ [e]) → w3.grownBy w' v.ownBlock → Fresh w3 v v' → K w' (a.put o.dst v')) : o.wp Tryz.prog a w3 (fun a' w' => K w' a') NoExit := by
  obtain ⟨v', w', hr, h1, h2, h3⟩ := run_appV B o.type v es e gx hown hB hc0 hc1 hlen
  unfold Oper.wp execOp
  simp only [ho, resolve, invoke, builtin, Sem.run_bind, Sem.run_pure, Result.andThen_ok, List.map_toArray, List.map_cons, List.map_nil, hs, hx, hr]
  exact h v' w' h1 h2 h3
set_option maxRecDepth 100000 in
theorem wpList_appV {ops : Array Oper} {rest : List Oper} {o : Oper} {a : Act} {Q : Exit → Act → World → Prop} (B : Nat) (w3 : World) (hgd : o.guard = none) (s x : Operand)
    (ho : o.op = .call { callee := .builtin .append, args := #[s, x], argTypes := #[27, 27] }) (v : Value) (es : List (RowE × Int)) (e : RowE × Int) (gx : Nat) (hs : a.eval s = v) (hown : RowsV w3 B v es) (hB : B ≤ w3.heap.size)
    (hx : a.eval x = .slice (some ⟨gx, 0, none⟩) 1 1) (hc0 : w3.cell? ⟨gx, 0, none⟩ = some (rowV e.1)) (hc1 : w3.cell? ⟨gx, 1, none⟩ = some (.int .i64 e.2)) (hlen : es.length ≤ 100000)
    (h : ∀ v' w', RowsV w' B v' (es ++ [e]) → w3.grownBy w' v.ownBlock → Fresh w3 v v' → wpList Tryz.prog ops Q rest (a.put o.dst v') w') : wpList Tryz.prog ops Q (o :: rest) a w3 := by
  obtain ⟨v', w', hr, h1, h2, h3⟩ := run_appV B o.type v es e gx hown hB hc0 hc1 hlen
  refine wpList_plain hgd fun K hK => ?_
  unfold Oper.wp execOp
  simp only [ho, resolve, invoke, builtin, Sem.run_bind, Sem.run_pure, Result.andThen_ok, List.map_toArray, List.map_cons, List.map_nil, hs, hx, hr]
  exact hK _ _ (h v' w' h1 h2 h3)
set_option maxRecDepth 100000 in
theorem oper_appVK {o : Oper} {a : Act} {K : World → Act → Prop} {R : World → World → Prop} (B : Nat) (w3 : World) (s x : Operand)
    (ho : o.op = .call { callee := .builtin .append, args := #[s, x], argTypes := #[27, 27] }) (v : Value) (es : List (RowE × Int)) (e : RowE × Int) (gx : Nat) (hs : a.eval s = v) (hown : RowsV w3 B v es) (hB : B ≤ w3.heap.size)
    (hx : a.eval x = .slice (some ⟨gx, 0, none⟩) 1 1) (hc0 : w3.cell? ⟨gx, 0, none⟩ = some (rowV e.1)) (hc1 : w3.cell? ⟨gx, 1, none⟩ = some (.int .i64 e.2)) (hlen : es.length ≤ 100000)
    (h : ∀ v' w', RowsV w' B v' (es ++ [e]) → w3.grownBy w' v.ownBlock → Fresh w3 v v' → R w3 w' ∧ K w' (a.put o.dst v')) : o.wp Tryz.prog a w3 (fun a' w' => R w3 w' ∧ K w' a') NoExit := by
  obtain ⟨v', w', hr, h1, h2, h3⟩ := run_appV B o.type v es e gx hown hB hc0 hc1 hlen
  unfold Oper.wp execOp
  simp only [ho, resolve, invoke, builtin, Sem.run_bind, Sem.run_pure, Result.andThen_ok, List.map_toArray, List.map_cons, List.map_nil, hs, hx, hr]
  exact h v' w' h1 h2 h3

end Go.Proofs.YtilcdnkkabmbfaaGreat
