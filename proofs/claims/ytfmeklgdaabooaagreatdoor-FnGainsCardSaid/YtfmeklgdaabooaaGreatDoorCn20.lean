/- Winners by a rule, of the program. The ranking with the fewest pairs that are beaten backwards, of the spec. The first ranking with the least score by swaps, of the spec. The pairs that are kept, of the spec. The order that the kept pairs give, of the spec. Winners by a rule, of the spec. The winner by a rule, of the program and of the spec. A winner who is not the one that should win, of the program and of the spec. What FnRules says of a profile (plain law). -/
import Derived.Test.YtfmeklgdaabooaaGreatDoorCn14
import Derived.Test.YtfmeklgdaabooaaGreatDoorCn16
import Derived.Test.YtfmeklgdaabooaaGreatDoorCn19
import Derived.Test.YtfmeklgdaabooaaGreatDoorCn5
import Derived.Test.YtfmeklgdaabooaaGreatDoorCn15
import Derived.Test.YtfmeklgdaabooaaGreatDoorCn11
import Derived.Test.YtfmeklgdaabooaaGreatDoorCn8
import Derived.Test.YtfmeklgdaabooaaGreatDoorCn9
import Derived.Test.YtfmeklgdaabooaaGreatDoorCn4
import Derived.Test.YtfmeklgdaabooaaGreatDoorCn13
import Derived.Test.YtfmeklgdaabooaaGreatDoorCn12
namespace Go.Proofs.YtfmeklgdaabooaaGreatDoor
open Go.RowKit

set_option maxRecDepth 100000 in
theorem rank1 {xs : List Int} {n : Nat} (h : xs.length = n) (n1 : 1 ≤ n) : ∃ y ys, xs = y :: ys := by
  cases xs with
  | nil => simp at h; omega
  | cons y ys => exact ⟨y, ys, rfl⟩
set_option maxRecDepth 100000 in
theorem prkO_full {n : Nat} {vs : List Vt} (_n1 : 1 ≤ n) (_n2 : n ≤ 5) (h0 : profOk n vs = true) : (prkO n vs).length = n := by unfold prkO; rw [if_pos h0, Int.toNat_natCast, prL_len]
set_option maxRecDepth 100000 in
theorem kemO_full {n : Nat} {vs : List Vt} (n1 : 1 ≤ n) (n2 : n ≤ 5) (h0 : profOk n vs = true) : (kemO n vs).length = n := by
  have e : kemO n vs = (lstR (kemV vs) n).1 := by simp [kemO, lstO, h0]
  rw [e]
  have := (rk_len ((allO_mem n1 n2).1 (lstR_mem (cost := kemV vs) n1 n2).1)).1
  omega

set_option maxRecDepth 100000 in
set_option maxHeartbeats 2000000 in
theorem winI1 (w : World) (n : Nat) (a : Option Addr) (c : Nat) (vs : List Vt) (hR : RdV w a vs) (h0 : profOk n vs = true) :
    Calls Tryz.prog 30 #[.int .i64 1, .agg #[.int .i64 n, .slice a vs.length c]] w fun e w' => ∃ v, e = .returned v ∧ OwnI w' w.heap.size v (winL 1 n vs) ∧ Ext w w' := by
  have q0 := new0 w (.int .i64 n) [.slice a vs.length c] 26
  have q1 := new1 w (.int .i64 n) (.slice a vs.length c) [] 26
  have n1 : 1 ≤ n := by have := prof_size h0; omega
  have n2 : n ≤ 5 := by have := prof_size h0; omega
  have HV : Hid (winL 1 n vs = bestL (rowL n (scoV pluW vs))) := rfl
  have H0 := hide h0
  go_enter Tryz.func30, Tryz.ntmps30
  go_wp2_with (go_at_call 25; refine (prof_impl _ _ _ _ _ (hR.ext (by repeat (first | exact Ext.refl _ | assumption | refine Ext.alloc ?_ _ | refine Ext.drew ?_ | refine Ext.trans ?_ (by assumption))))).mono ?_; rintro e w1 ⟨rfl, hw1⟩; have q0 := Ext.keep (w' := w1) (by repeat (first | exact Ext.refl _ | assumption | refine Ext.alloc ?_ _ | refine Ext.drew ?_ | refine Ext.trans ?_ (by assumption))) q0; have q1 := Ext.keep (w' := w1) (by repeat (first | exact Ext.refl _ | assumption | refine Ext.alloc ?_ _ | refine Ext.drew ?_ | refine Ext.trans ?_ (by assumption))) q1)
  clear h0
  have hw : Ext w w1 := (by repeat (first | exact Ext.refl _ | assumption | refine Ext.alloc ?_ _ | refine Ext.drew ?_ | refine Ext.trans ?_ (by assumption)))
  obtain ⟨wb, hwb⟩ : ∃ wb : World, wb = w1 := ⟨_, rfl⟩
  subst hwb
  clear hw1
  refine wp_region_X (by kernel_rfl) (by kernel_rfl) ?_
  repeat' (refine wpX_stepQ (fun K hK => ?_)
           go_simp
           try (rw [if_neg (by intro h; simp [undef] at h)])
           try split
           all_goals
             first
             | (refine hK _ ?_
                clear hK K)
             | (apply Exists.intro
                refine ⟨fun wq hwq => ?_, hK _ ?_⟩
                · have hcq := hwq.cellS
                  go_simp
                  first
                  | exact ⟨Ext.refl _, rfl⟩
                clear hK K))
  refine wpX_stepS rfl (by kernel_rfl) (fun K hK wq hwq => ?_)
  go_simp
  refine (plu_impl _ _).mono ?_
  rintro e w2 ⟨v, rfl, hv, hw2⟩
  refine ⟨hw2, hK _ _ ?_⟩
  clear hK K
  have hv := hv n rfl (inR_iff.2 (by omega))
  obtain ⟨av, cv, rfl, _, hRv, hju⟩ := hv.fr
  clear hju
  rw [rowL_len]
  refine wpX_stepS rfl (by kernel_rfl) (fun K hK wq hwq => ?_)
  go_simp
  refine (swin_impl _ n a av c cv vs pluW n2 (hR.ext (by repeat (first | exact Ext.refl _ | assumption | refine Ext.alloc ?_ _ | refine Ext.drew ?_ | refine Ext.trans ?_ (by assumption)))) (hRv.ext (by repeat (first | exact Ext.refl _ | assumption | refine Ext.alloc ?_ _ | refine Ext.drew ?_ | refine Ext.trans ?_ (by assumption)))) pluG H0.out).mono ?_
  rintro e w3 ⟨v3, rfl, hv3, hw3⟩
  refine ⟨hw3, hK _ _ ?_⟩
  clear hK K
  repeat' (refine wpX_stepQ (fun K hK => ?_)
           go_simp
           try (rw [if_neg (by intro h; simp [undef] at h)])
           try split
           all_goals
             first
             | (refine hK _ ?_
                clear hK K)
             | (apply Exists.intro
                refine ⟨fun wq hwq => ?_, hK _ ?_⟩
                · have hcq := hwq.cellS
                  go_simp
                  first
                  | exact ⟨Ext.refl _, rfl⟩
                clear hK K))
  refine wpX_nil (fun wz hwz => ?_)
  go_wp2
  go_ret
  exact ⟨_, rfl, by rw [HV.out]; exact (hv3.ext hwz).base (Ext.size (by repeat (first | exact Ext.refl _ | assumption | refine Ext.alloc ?_ _ | refine Ext.drew ?_ | refine Ext.trans ?_ (by assumption)))), (by repeat (first | exact Ext.refl _ | assumption | refine Ext.alloc ?_ _ | refine Ext.drew ?_ | refine Ext.trans ?_ (by assumption)))⟩

set_option maxRecDepth 100000 in
set_option maxHeartbeats 2000000 in
theorem winI2 (w : World) (n : Nat) (a : Option Addr) (c : Nat) (vs : List Vt) (hR : RdV w a vs) (h0 : profOk n vs = true) :
    Calls Tryz.prog 30 #[.int .i64 2, .agg #[.int .i64 n, .slice a vs.length c]] w fun e w' => ∃ v, e = .returned v ∧ OwnI w' w.heap.size v (winL 2 n vs) ∧ Ext w w' := by
  have q0 := new0 w (.int .i64 n) [.slice a vs.length c] 26
  have q1 := new1 w (.int .i64 n) (.slice a vs.length c) [] 26
  have n1 : 1 ≤ n := by have := prof_size h0; omega
  have n2 : n ≤ 5 := by have := prof_size h0; omega
  have HV : Hid (winL 2 n vs = bestL (rowL n (scoV (borW n) vs))) := rfl
  have H0 := hide h0
  go_enter Tryz.func30, Tryz.ntmps30
  go_wp2_with (go_at_call 25; refine (prof_impl _ _ _ _ _ (hR.ext (by repeat (first | exact Ext.refl _ | assumption | refine Ext.alloc ?_ _ | refine Ext.drew ?_ | refine Ext.trans ?_ (by assumption))))).mono ?_; rintro e w1 ⟨rfl, hw1⟩; have q0 := Ext.keep (w' := w1) (by repeat (first | exact Ext.refl _ | assumption | refine Ext.alloc ?_ _ | refine Ext.drew ?_ | refine Ext.trans ?_ (by assumption))) q0; have q1 := Ext.keep (w' := w1) (by repeat (first | exact Ext.refl _ | assumption | refine Ext.alloc ?_ _ | refine Ext.drew ?_ | refine Ext.trans ?_ (by assumption))) q1)
  clear h0
  have hw : Ext w w1 := (by repeat (first | exact Ext.refl _ | assumption | refine Ext.alloc ?_ _ | refine Ext.drew ?_ | refine Ext.trans ?_ (by assumption)))
  obtain ⟨wb, hwb⟩ : ∃ wb : World, wb = w1 := ⟨_, rfl⟩
  subst hwb
  clear hw1
  refine wp_region_X (by kernel_rfl) (by kernel_rfl) ?_
  repeat' (refine wpX_stepQ (fun K hK => ?_)
           go_simp
           try (rw [if_neg (by intro h; simp [undef] at h)])
           try split
           all_goals
             first
             | (refine hK _ ?_
                clear hK K)
             | (apply Exists.intro
                refine ⟨fun wq hwq => ?_, hK _ ?_⟩
                · have hcq := hwq.cellS
                  go_simp
                  first
                  | exact ⟨Ext.refl _, rfl⟩
                clear hK K))
  refine wpX_stepS rfl (by kernel_rfl) (fun K hK wq hwq => ?_)
  go_simp
  refine (bor_impl _ n n1 n2).mono ?_
  rintro e w2 ⟨v, rfl, hv, hw2⟩
  refine ⟨hw2, hK _ _ ?_⟩
  clear hK K
  obtain ⟨av, cv, rfl, _, hRv, hju⟩ := hv.fr
  clear hju
  rw [rowL_len]
  refine wpX_stepS rfl (by kernel_rfl) (fun K hK wq hwq => ?_)
  go_simp
  refine (swin_impl _ n a av c cv vs (borW n) n2 (hR.ext (by repeat (first | exact Ext.refl _ | assumption | refine Ext.alloc ?_ _ | refine Ext.drew ?_ | refine Ext.trans ?_ (by assumption)))) (hRv.ext (by repeat (first | exact Ext.refl _ | assumption | refine Ext.alloc ?_ _ | refine Ext.drew ?_ | refine Ext.trans ?_ (by assumption)))) (borG n2) H0.out).mono ?_
  rintro e w3 ⟨v3, rfl, hv3, hw3⟩
  refine ⟨hw3, hK _ _ ?_⟩
  clear hK K
  repeat' (refine wpX_stepQ (fun K hK => ?_)
           go_simp
           try (rw [if_neg (by intro h; simp [undef] at h)])
           try split
           all_goals
             first
             | (refine hK _ ?_
                clear hK K)
             | (apply Exists.intro
                refine ⟨fun wq hwq => ?_, hK _ ?_⟩
                · have hcq := hwq.cellS
                  go_simp
                  first
                  | exact ⟨Ext.refl _, rfl⟩
                clear hK K))
  refine wpX_nil (fun wz hwz => ?_)
  go_wp2
  go_ret
  exact ⟨_, rfl, by rw [HV.out]; exact (hv3.ext hwz).base (Ext.size (by repeat (first | exact Ext.refl _ | assumption | refine Ext.alloc ?_ _ | refine Ext.drew ?_ | refine Ext.trans ?_ (by assumption)))), (by repeat (first | exact Ext.refl _ | assumption | refine Ext.alloc ?_ _ | refine Ext.drew ?_ | refine Ext.trans ?_ (by assumption)))⟩

set_option maxRecDepth 100000 in
set_option maxHeartbeats 2000000 in
theorem winI3 (w : World) (n : Nat) (a : Option Addr) (c : Nat) (vs : List Vt) (hR : RdV w a vs) (h0 : profOk n vs = true) :
    Calls Tryz.prog 30 #[.int .i64 3, .agg #[.int .i64 n, .slice a vs.length c]] w fun e w' => ∃ v, e = .returned v ∧ OwnI w' w.heap.size v (winL 3 n vs) ∧ Ext w w' := by
  have q0 := new0 w (.int .i64 n) [.slice a vs.length c] 26
  have q1 := new1 w (.int .i64 n) (.slice a vs.length c) [] 26
  have n1 : 1 ≤ n := by have := prof_size h0; omega
  have n2 : n ≤ 5 := by have := prof_size h0; omega
  have HV : Hid (winL 3 n vs = bestL (rowL n (scoV (vetW n) vs))) := rfl
  have H0 := hide h0
  go_enter Tryz.func30, Tryz.ntmps30
  go_wp2_with (go_at_call 25; refine (prof_impl _ _ _ _ _ (hR.ext (by repeat (first | exact Ext.refl _ | assumption | refine Ext.alloc ?_ _ | refine Ext.drew ?_ | refine Ext.trans ?_ (by assumption))))).mono ?_; rintro e w1 ⟨rfl, hw1⟩; have q0 := Ext.keep (w' := w1) (by repeat (first | exact Ext.refl _ | assumption | refine Ext.alloc ?_ _ | refine Ext.drew ?_ | refine Ext.trans ?_ (by assumption))) q0; have q1 := Ext.keep (w' := w1) (by repeat (first | exact Ext.refl _ | assumption | refine Ext.alloc ?_ _ | refine Ext.drew ?_ | refine Ext.trans ?_ (by assumption))) q1)
  clear h0
  have hw : Ext w w1 := (by repeat (first | exact Ext.refl _ | assumption | refine Ext.alloc ?_ _ | refine Ext.drew ?_ | refine Ext.trans ?_ (by assumption)))
  obtain ⟨wb, hwb⟩ : ∃ wb : World, wb = w1 := ⟨_, rfl⟩
  subst hwb
  clear hw1
  refine wp_region_X (by kernel_rfl) (by kernel_rfl) ?_
  repeat' (refine wpX_stepQ (fun K hK => ?_)
           go_simp
           try (rw [if_neg (by intro h; simp [undef] at h)])
           try split
           all_goals
             first
             | (refine hK _ ?_
                clear hK K)
             | (apply Exists.intro
                refine ⟨fun wq hwq => ?_, hK _ ?_⟩
                · have hcq := hwq.cellS
                  go_simp
                  first
                  | exact ⟨Ext.refl _, rfl⟩
                clear hK K))
  refine wpX_stepS rfl (by kernel_rfl) (fun K hK wq hwq => ?_)
  go_simp
  refine (vet_impl _ n n1 n2).mono ?_
  rintro e w2 ⟨v, rfl, hv, hw2⟩
  refine ⟨hw2, hK _ _ ?_⟩
  clear hK K
  obtain ⟨av, cv, rfl, _, hRv, hju⟩ := hv.fr
  clear hju
  rw [rowL_len]
  refine wpX_stepS rfl (by kernel_rfl) (fun K hK wq hwq => ?_)
  go_simp
  refine (swin_impl _ n a av c cv vs (vetW n) n2 (hR.ext (by repeat (first | exact Ext.refl _ | assumption | refine Ext.alloc ?_ _ | refine Ext.drew ?_ | refine Ext.trans ?_ (by assumption)))) (hRv.ext (by repeat (first | exact Ext.refl _ | assumption | refine Ext.alloc ?_ _ | refine Ext.drew ?_ | refine Ext.trans ?_ (by assumption)))) (vetG n) H0.out).mono ?_
  rintro e w3 ⟨v3, rfl, hv3, hw3⟩
  refine ⟨hw3, hK _ _ ?_⟩
  clear hK K
  repeat' (refine wpX_stepQ (fun K hK => ?_)
           go_simp
           try (rw [if_neg (by intro h; simp [undef] at h)])
           try split
           all_goals
             first
             | (refine hK _ ?_
                clear hK K)
             | (apply Exists.intro
                refine ⟨fun wq hwq => ?_, hK _ ?_⟩
                · have hcq := hwq.cellS
                  go_simp
                  first
                  | exact ⟨Ext.refl _, rfl⟩
                clear hK K))
  refine wpX_nil (fun wz hwz => ?_)
  go_wp2
  go_ret
  exact ⟨_, rfl, by rw [HV.out]; exact (hv3.ext hwz).base (Ext.size (by repeat (first | exact Ext.refl _ | assumption | refine Ext.alloc ?_ _ | refine Ext.drew ?_ | refine Ext.trans ?_ (by assumption)))), (by repeat (first | exact Ext.refl _ | assumption | refine Ext.alloc ?_ _ | refine Ext.drew ?_ | refine Ext.trans ?_ (by assumption)))⟩

set_option maxRecDepth 100000 in
set_option maxHeartbeats 2000000 in
theorem winI4 (w : World) (n : Nat) (a : Option Addr) (c : Nat) (vs : List Vt) (hR : RdV w a vs) (h0 : profOk n vs = true) :
    Calls Tryz.prog 30 #[.int .i64 4, .agg #[.int .i64 n, .slice a vs.length c]] w fun e w' => ∃ v, e = .returned v ∧ OwnI w' w.heap.size v (winL 4 n vs) ∧ Ext w w' := by
  have q0 := new0 w (.int .i64 n) [.slice a vs.length c] 26
  have q1 := new1 w (.int .i64 n) (.slice a vs.length c) [] 26
  have n1 : 1 ≤ n := by have := prof_size h0; omega
  have n2 : n ≤ 5 := by have := prof_size h0; omega
  have HV : Hid (winL 4 n vs = bestL (copeO n vs)) := rfl
  have H0 := hide h0
  go_enter Tryz.func30, Tryz.ntmps30
  go_wp2_with (go_at_call 25; refine (prof_impl _ _ _ _ _ (hR.ext (by repeat (first | exact Ext.refl _ | assumption | refine Ext.alloc ?_ _ | refine Ext.drew ?_ | refine Ext.trans ?_ (by assumption))))).mono ?_; rintro e w1 ⟨rfl, hw1⟩; have q0 := Ext.keep (w' := w1) (by repeat (first | exact Ext.refl _ | assumption | refine Ext.alloc ?_ _ | refine Ext.drew ?_ | refine Ext.trans ?_ (by assumption))) q0; have q1 := Ext.keep (w' := w1) (by repeat (first | exact Ext.refl _ | assumption | refine Ext.alloc ?_ _ | refine Ext.drew ?_ | refine Ext.trans ?_ (by assumption))) q1)
  clear h0
  have hw : Ext w w1 := (by repeat (first | exact Ext.refl _ | assumption | refine Ext.alloc ?_ _ | refine Ext.drew ?_ | refine Ext.trans ?_ (by assumption)))
  obtain ⟨wb, hwb⟩ : ∃ wb : World, wb = w1 := ⟨_, rfl⟩
  subst hwb
  clear hw1
  refine (cope_impl _ n a c vs (hR.ext hw)).mono ?_
  rintro e w2 ⟨v, rfl, hv, hw2⟩
  obtain ⟨av, cv, rfl, _, hRs, hju⟩ := hv.fr
  clear hju
  have H := hide (gr_impl w2 av cv (copeO n vs) hRs (by have := copeO_len n vs; omega))
  clear hv hRs
  go_wp2_with fail
  refine H.out.mono ?_
  rintro e w3 ⟨v3, rfl, hv3, hw3⟩
  have hs := (hw.trans hw2).size
  go_wp2
  go_ret
  exact ⟨_, rfl, by rw [HV.out]; exact hv3.base hs, hw.trans (hw2.trans hw3)⟩

set_option maxRecDepth 100000 in
set_option maxHeartbeats 2000000 in
theorem winI5 (w : World) (n : Nat) (a : Option Addr) (c : Nat) (vs : List Vt) (hR : RdV w a vs) (h0 : profOk n vs = true) :
    Calls Tryz.prog 30 #[.int .i64 5, .agg #[.int .i64 n, .slice a vs.length c]] w fun e w' => ∃ v, e = .returned v ∧ OwnI w' w.heap.size v (winL 5 n vs) ∧ Ext w w' := by
  have q0 := new0 w (.int .i64 n) [.slice a vs.length c] 26
  have q1 := new1 w (.int .i64 n) (.slice a vs.length c) [] 26
  have n1 : 1 ≤ n := by have := prof_size h0; omega
  have n2 : n ≤ 5 := by have := prof_size h0; omega
  have HV : Hid (winL 5 n vs = bestL (maxiO n vs)) := rfl
  have H0 := hide h0
  go_enter Tryz.func30, Tryz.ntmps30
  go_wp2_with (go_at_call 25; refine (prof_impl _ _ _ _ _ (hR.ext (by repeat (first | exact Ext.refl _ | assumption | refine Ext.alloc ?_ _ | refine Ext.drew ?_ | refine Ext.trans ?_ (by assumption))))).mono ?_; rintro e w1 ⟨rfl, hw1⟩; have q0 := Ext.keep (w' := w1) (by repeat (first | exact Ext.refl _ | assumption | refine Ext.alloc ?_ _ | refine Ext.drew ?_ | refine Ext.trans ?_ (by assumption))) q0; have q1 := Ext.keep (w' := w1) (by repeat (first | exact Ext.refl _ | assumption | refine Ext.alloc ?_ _ | refine Ext.drew ?_ | refine Ext.trans ?_ (by assumption))) q1)
  clear h0
  have hw : Ext w w1 := (by repeat (first | exact Ext.refl _ | assumption | refine Ext.alloc ?_ _ | refine Ext.drew ?_ | refine Ext.trans ?_ (by assumption)))
  obtain ⟨wb, hwb⟩ : ∃ wb : World, wb = w1 := ⟨_, rfl⟩
  subst hwb
  clear hw1
  refine (maxi_impl _ n a c vs (hR.ext hw)).mono ?_
  rintro e w2 ⟨v, rfl, hv, hw2⟩
  obtain ⟨av, cv, rfl, _, hRs, hju⟩ := hv.fr
  clear hju
  have H := hide (gr_impl w2 av cv (maxiO n vs) hRs (by have := maxiO_len n vs; omega))
  clear hv hRs
  go_wp2_with fail
  refine H.out.mono ?_
  rintro e w3 ⟨v3, rfl, hv3, hw3⟩
  have hs := (hw.trans hw2).size
  go_wp2
  go_ret
  exact ⟨_, rfl, by rw [HV.out]; exact hv3.base hs, hw.trans (hw2.trans hw3)⟩

set_option maxRecDepth 100000 in
set_option maxHeartbeats 2000000 in
theorem winI6 (w : World) (n : Nat) (a : Option Addr) (c : Nat) (vs : List Vt) (hR : RdV w a vs) (h0 : profOk n vs = true) :
    Calls Tryz.prog 30 #[.int .i64 6, .agg #[.int .i64 n, .slice a vs.length c]] w fun e w' => ∃ v, e = .returned v ∧ OwnI w' w.heap.size v (winL 6 n vs) ∧ Ext w w' := by
  have q0 := new0 w (.int .i64 n) [.slice a vs.length c] 26
  have q1 := new1 w (.int .i64 n) (.slice a vs.length c) [] 26
  have n1 : 1 ≤ n := by have := prof_size h0; omega
  have n2 : n ≤ 5 := by have := prof_size h0; omega
  have HV : Hid (winL 6 n vs = [runO n vs]) := rfl
  have H0 := hide h0
  go_enter Tryz.func30, Tryz.ntmps30
  go_wp2_with (go_at_call 25; refine (prof_impl _ _ _ _ _ (hR.ext (by repeat (first | exact Ext.refl _ | assumption | refine Ext.alloc ?_ _ | refine Ext.drew ?_ | refine Ext.trans ?_ (by assumption))))).mono ?_; rintro e w1 ⟨rfl, hw1⟩; have q0 := Ext.keep (w' := w1) (by repeat (first | exact Ext.refl _ | assumption | refine Ext.alloc ?_ _ | refine Ext.drew ?_ | refine Ext.trans ?_ (by assumption))) q0; have q1 := Ext.keep (w' := w1) (by repeat (first | exact Ext.refl _ | assumption | refine Ext.alloc ?_ _ | refine Ext.drew ?_ | refine Ext.trans ?_ (by assumption))) q1)
  clear h0
  have hw : Ext w w1 := (by repeat (first | exact Ext.refl _ | assumption | refine Ext.alloc ?_ _ | refine Ext.drew ?_ | refine Ext.trans ?_ (by assumption)))
  obtain ⟨wb, hwb⟩ : ∃ wb : World, wb = w1 := ⟨_, rfl⟩
  subst hwb
  clear hw1
  refine (run_impl _ n a c vs (hR.ext hw)).mono ?_
  rintro e w2 ⟨rfl, hw2⟩
  have hs := (hw.trans hw2).size
  have hO := OwnI.lit1 w2 (runO n vs)
  go_wp2
  go_ret
  exact ⟨_, rfl, by rw [HV.out]; exact hO.base hs, hw.trans (hw2.trans (Ext.new _ _))⟩

set_option maxRecDepth 100000 in
set_option maxHeartbeats 2000000 in
theorem winI7 (w : World) (n : Nat) (a : Option Addr) (c : Nat) (vs : List Vt) (hR : RdV w a vs) (h0 : profOk n vs = true) :
    Calls Tryz.prog 30 #[.int .i64 7, .agg #[.int .i64 n, .slice a vs.length c]] w fun e w' => ∃ v, e = .returned v ∧ OwnI w' w.heap.size v (winL 7 n vs) ∧ Ext w w' := by
  have q0 := new0 w (.int .i64 n) [.slice a vs.length c] 26
  have q1 := new1 w (.int .i64 n) (.slice a vs.length c) [] 26
  have n1 : 1 ≤ n := by have := prof_size h0; omega
  have n2 : n ≤ 5 := by have := prof_size h0; omega
  have HV : Hid (winL 7 n vs = [lastI (elimO n vs (worF vs))]) := rfl
  have H0 := hide h0
  go_enter Tryz.func30, Tryz.ntmps30
  go_wp2_with (go_at_call 25; refine (prof_impl _ _ _ _ _ (hR.ext (by repeat (first | exact Ext.refl _ | assumption | refine Ext.alloc ?_ _ | refine Ext.drew ?_ | refine Ext.trans ?_ (by assumption))))).mono ?_; rintro e w1 ⟨rfl, hw1⟩; have q0 := Ext.keep (w' := w1) (by repeat (first | exact Ext.refl _ | assumption | refine Ext.alloc ?_ _ | refine Ext.drew ?_ | refine Ext.trans ?_ (by assumption))) q0; have q1 := Ext.keep (w' := w1) (by repeat (first | exact Ext.refl _ | assumption | refine Ext.alloc ?_ _ | refine Ext.drew ?_ | refine Ext.trans ?_ (by assumption))) q1)
  clear h0
  have hw : Ext w w1 := (by repeat (first | exact Ext.refl _ | assumption | refine Ext.alloc ?_ _ | refine Ext.drew ?_ | refine Ext.trans ?_ (by assumption)))
  obtain ⟨wb, hwb⟩ : ∃ wb : World, wb = w1 := ⟨_, rfl⟩
  subst hwb
  clear hw1
  refine (inst_impl _ n a c vs (hR.ext hw)).mono ?_
  rintro e w2 ⟨v, rfl, hv, hw2⟩
  obtain ⟨av, cv, rfl, _, hRs, hju⟩ := hv.fr
  clear hju
  have H := hide (lastOf_impl w2 av cv (elimO n vs (worF vs)) hRs (by have := elimO_len n vs (worF vs); omega))
  clear hv hRs
  go_wp2_with fail
  refine H.out.mono ?_
  rintro e w3 ⟨rfl, hw3⟩
  have hs := (hw.trans (hw2.trans hw3)).size
  have hO := OwnI.lit1 w3 (lastI (elimO n vs (worF vs)))
  go_wp2
  go_ret
  exact ⟨_, rfl, by rw [HV.out]; exact hO.base hs, hw.trans (hw2.trans (hw3.trans (Ext.new _ _)))⟩

set_option maxRecDepth 100000 in
set_option maxHeartbeats 2000000 in
theorem winI8 (w : World) (n : Nat) (a : Option Addr) (c : Nat) (vs : List Vt) (hR : RdV w a vs) (h0 : profOk n vs = true) :
    Calls Tryz.prog 30 #[.int .i64 8, .agg #[.int .i64 n, .slice a vs.length c]] w fun e w' => ∃ v, e = .returned v ∧ OwnI w' w.heap.size v (winL 8 n vs) ∧ Ext w w' := by
  have q0 := new0 w (.int .i64 n) [.slice a vs.length c] 26
  have q1 := new1 w (.int .i64 n) (.slice a vs.length c) [] 26
  have n1 : 1 ≤ n := by have := prof_size h0; omega
  have n2 : n ≤ 5 := by have := prof_size h0; omega
  have HV : Hid (winL 8 n vs = [lastI (elimO n vs (worL vs))]) := rfl
  have H0 := hide h0
  go_enter Tryz.func30, Tryz.ntmps30
  go_wp2_with (go_at_call 25; refine (prof_impl _ _ _ _ _ (hR.ext (by repeat (first | exact Ext.refl _ | assumption | refine Ext.alloc ?_ _ | refine Ext.drew ?_ | refine Ext.trans ?_ (by assumption))))).mono ?_; rintro e w1 ⟨rfl, hw1⟩; have q0 := Ext.keep (w' := w1) (by repeat (first | exact Ext.refl _ | assumption | refine Ext.alloc ?_ _ | refine Ext.drew ?_ | refine Ext.trans ?_ (by assumption))) q0; have q1 := Ext.keep (w' := w1) (by repeat (first | exact Ext.refl _ | assumption | refine Ext.alloc ?_ _ | refine Ext.drew ?_ | refine Ext.trans ?_ (by assumption))) q1)
  clear h0
  have hw : Ext w w1 := (by repeat (first | exact Ext.refl _ | assumption | refine Ext.alloc ?_ _ | refine Ext.drew ?_ | refine Ext.trans ?_ (by assumption)))
  obtain ⟨wb, hwb⟩ : ∃ wb : World, wb = w1 := ⟨_, rfl⟩
  subst hwb
  clear hw1
  refine (coom_impl _ n a c vs (hR.ext hw)).mono ?_
  rintro e w2 ⟨v, rfl, hv, hw2⟩
  obtain ⟨av, cv, rfl, _, hRs, hju⟩ := hv.fr
  clear hju
  have H := hide (lastOf_impl w2 av cv (elimO n vs (worL vs)) hRs (by have := elimO_len n vs (worL vs); omega))
  clear hv hRs
  go_wp2_with fail
  refine H.out.mono ?_
  rintro e w3 ⟨rfl, hw3⟩
  have hs := (hw.trans (hw2.trans hw3)).size
  have hO := OwnI.lit1 w3 (lastI (elimO n vs (worL vs)))
  go_wp2
  go_ret
  exact ⟨_, rfl, by rw [HV.out]; exact hO.base hs, hw.trans (hw2.trans (hw3.trans (Ext.new _ _)))⟩

set_option maxRecDepth 100000 in
set_option maxHeartbeats 2000000 in
theorem winI9 (w : World) (n : Nat) (a : Option Addr) (c : Nat) (vs : List Vt) (hR : RdV w a vs) (h0 : profOk n vs = true) :
    Calls Tryz.prog 30 #[.int .i64 9, .agg #[.int .i64 n, .slice a vs.length c]] w fun e w' => ∃ v, e = .returned v ∧ OwnI w' w.heap.size v (winL 9 n vs) ∧ Ext w w' := by
  have q0 := new0 w (.int .i64 n) [.slice a vs.length c] 26
  have q1 := new1 w (.int .i64 n) (.slice a vs.length c) [] 26
  have n1 : 1 ≤ n := by have := prof_size h0; omega
  have n2 : n ≤ 5 := by have := prof_size h0; omega
  have HV : Hid (winL 9 n vs = [lastI (elimO n vs (worP vs))]) := rfl
  have H0 := hide h0
  go_enter Tryz.func30, Tryz.ntmps30
  go_wp2_with (go_at_call 25; refine (prof_impl _ _ _ _ _ (hR.ext (by repeat (first | exact Ext.refl _ | assumption | refine Ext.alloc ?_ _ | refine Ext.drew ?_ | refine Ext.trans ?_ (by assumption))))).mono ?_; rintro e w1 ⟨rfl, hw1⟩; have q0 := Ext.keep (w' := w1) (by repeat (first | exact Ext.refl _ | assumption | refine Ext.alloc ?_ _ | refine Ext.drew ?_ | refine Ext.trans ?_ (by assumption))) q0; have q1 := Ext.keep (w' := w1) (by repeat (first | exact Ext.refl _ | assumption | refine Ext.alloc ?_ _ | refine Ext.drew ?_ | refine Ext.trans ?_ (by assumption))) q1)
  clear h0
  have hw : Ext w w1 := (by repeat (first | exact Ext.refl _ | assumption | refine Ext.alloc ?_ _ | refine Ext.drew ?_ | refine Ext.trans ?_ (by assumption)))
  obtain ⟨wb, hwb⟩ : ∃ wb : World, wb = w1 := ⟨_, rfl⟩
  subst hwb
  clear hw1
  refine (bald_impl _ n a c vs (hR.ext hw)).mono ?_
  rintro e w2 ⟨v, rfl, hv, hw2⟩
  obtain ⟨av, cv, rfl, _, hRs, hju⟩ := hv.fr
  clear hju
  have H := hide (lastOf_impl w2 av cv (elimO n vs (worP vs)) hRs (by have := elimO_len n vs (worP vs); omega))
  clear hv hRs
  go_wp2_with fail
  refine H.out.mono ?_
  rintro e w3 ⟨rfl, hw3⟩
  have hs := (hw.trans (hw2.trans hw3)).size
  have hO := OwnI.lit1 w3 (lastI (elimO n vs (worP vs)))
  go_wp2
  go_ret
  exact ⟨_, rfl, by rw [HV.out]; exact hO.base hs, hw.trans (hw2.trans (hw3.trans (Ext.new _ _)))⟩

set_option maxRecDepth 100000 in
set_option maxHeartbeats 2000000 in
theorem winI10 (w : World) (n : Nat) (a : Option Addr) (c : Nat) (vs : List Vt) (hR : RdV w a vs) (h0 : profOk n vs = true) :
    Calls Tryz.prog 30 #[.int .i64 10, .agg #[.int .i64 n, .slice a vs.length c]] w fun e w' => ∃ v, e = .returned v ∧ OwnI w' w.heap.size v (winL 10 n vs) ∧ Ext w w' := by
  have q0 := new0 w (.int .i64 n) [.slice a vs.length c] 26
  have q1 := new1 w (.int .i64 n) (.slice a vs.length c) [] 26
  have n1 : 1 ≤ n := by have := prof_size h0; omega
  have n2 : n ≤ 5 := by have := prof_size h0; omega
  have HV : Hid (winL 10 n vs = [bukO n vs]) := rfl
  have H0 := hide h0
  go_enter Tryz.func30, Tryz.ntmps30
  go_wp2_with (go_at_call 25; refine (prof_impl _ _ _ _ _ (hR.ext (by repeat (first | exact Ext.refl _ | assumption | refine Ext.alloc ?_ _ | refine Ext.drew ?_ | refine Ext.trans ?_ (by assumption))))).mono ?_; rintro e w1 ⟨rfl, hw1⟩; have q0 := Ext.keep (w' := w1) (by repeat (first | exact Ext.refl _ | assumption | refine Ext.alloc ?_ _ | refine Ext.drew ?_ | refine Ext.trans ?_ (by assumption))) q0; have q1 := Ext.keep (w' := w1) (by repeat (first | exact Ext.refl _ | assumption | refine Ext.alloc ?_ _ | refine Ext.drew ?_ | refine Ext.trans ?_ (by assumption))) q1)
  clear h0
  have hw : Ext w w1 := (by repeat (first | exact Ext.refl _ | assumption | refine Ext.alloc ?_ _ | refine Ext.drew ?_ | refine Ext.trans ?_ (by assumption)))
  obtain ⟨wb, hwb⟩ : ∃ wb : World, wb = w1 := ⟨_, rfl⟩
  subst hwb
  clear hw1
  refine (bukO_impl _ n a c vs (hR.ext hw)).mono ?_
  rintro e w2 ⟨rfl, hw2⟩
  have hs := (hw.trans hw2).size
  have hO := OwnI.lit1 w2 (bukO n vs)
  go_wp2
  go_ret
  exact ⟨_, rfl, by rw [HV.out]; exact hO.base hs, hw.trans (hw2.trans (Ext.new _ _))⟩

set_option maxRecDepth 100000 in
set_option maxHeartbeats 2000000 in
theorem winI11 (w : World) (n : Nat) (a : Option Addr) (c : Nat) (vs : List Vt) (hR : RdV w a vs) (h0 : profOk n vs = true) :
    Calls Tryz.prog 30 #[.int .i64 11, .agg #[.int .i64 n, .slice a vs.length c]] w fun e w' => ∃ v, e = .returned v ∧ OwnI w' w.heap.size v (winL 11 n vs) ∧ Ext w w' := by
  have q0 := new0 w (.int .i64 n) [.slice a vs.length c] 26
  have q1 := new1 w (.int .i64 n) (.slice a vs.length c) [] 26
  have n1 : 1 ≤ n := by have := prof_size h0; omega
  have n2 : n ≤ 5 := by have := prof_size h0; omega
  have HV : Hid (winL 11 n vs = schO n vs) := rfl
  have H0 := hide h0
  go_enter Tryz.func30, Tryz.ntmps30
  go_wp2_with (go_at_call 25; refine (prof_impl _ _ _ _ _ (hR.ext (by repeat (first | exact Ext.refl _ | assumption | refine Ext.alloc ?_ _ | refine Ext.drew ?_ | refine Ext.trans ?_ (by assumption))))).mono ?_; rintro e w1 ⟨rfl, hw1⟩; have q0 := Ext.keep (w' := w1) (by repeat (first | exact Ext.refl _ | assumption | refine Ext.alloc ?_ _ | refine Ext.drew ?_ | refine Ext.trans ?_ (by assumption))) q0; have q1 := Ext.keep (w' := w1) (by repeat (first | exact Ext.refl _ | assumption | refine Ext.alloc ?_ _ | refine Ext.drew ?_ | refine Ext.trans ?_ (by assumption))) q1)
  clear h0
  have hw : Ext w w1 := (by repeat (first | exact Ext.refl _ | assumption | refine Ext.alloc ?_ _ | refine Ext.drew ?_ | refine Ext.trans ?_ (by assumption)))
  obtain ⟨wb, hwb⟩ : ∃ wb : World, wb = w1 := ⟨_, rfl⟩
  subst hwb
  clear hw1
  refine (sch_impl _ n a c vs (hR.ext hw)).mono ?_
  rintro e w2 ⟨v, rfl, hv, hw2⟩
  have hs := hw.size
  go_wp2
  go_ret
  exact ⟨_, rfl, by rw [HV.out]; exact hv.base hs, hw.trans hw2⟩

set_option maxRecDepth 100000 in
set_option maxHeartbeats 2000000 in
theorem winI12 (w : World) (n : Nat) (a : Option Addr) (c : Nat) (vs : List Vt) (hR : RdV w a vs) (h0 : profOk n vs = true) :
    Calls Tryz.prog 30 #[.int .i64 12, .agg #[.int .i64 n, .slice a vs.length c]] w fun e w' => ∃ v, e = .returned v ∧ OwnI w' w.heap.size v (winL 12 n vs) ∧ Ext w w' := by
  have q0 := new0 w (.int .i64 n) [.slice a vs.length c] 26
  have q1 := new1 w (.int .i64 n) (.slice a vs.length c) [] 26
  have n1 : 1 ≤ n := by have := prof_size h0; omega
  have n2 : n ≤ 5 := by have := prof_size h0; omega
  have HV : Hid (winL 12 n vs = (prkO n vs).take 1) := rfl
  have H0 := hide h0
  go_enter Tryz.func30, Tryz.ntmps30
  go_wp2_with (go_at_call 25; refine (prof_impl _ _ _ _ _ (hR.ext (by repeat (first | exact Ext.refl _ | assumption | refine Ext.alloc ?_ _ | refine Ext.drew ?_ | refine Ext.trans ?_ (by assumption))))).mono ?_; rintro e w1 ⟨rfl, hw1⟩; have q0 := Ext.keep (w' := w1) (by repeat (first | exact Ext.refl _ | assumption | refine Ext.alloc ?_ _ | refine Ext.drew ?_ | refine Ext.trans ?_ (by assumption))) q0; have q1 := Ext.keep (w' := w1) (by repeat (first | exact Ext.refl _ | assumption | refine Ext.alloc ?_ _ | refine Ext.drew ?_ | refine Ext.trans ?_ (by assumption))) q1)
  clear h0
  have hw : Ext w w1 := (by repeat (first | exact Ext.refl _ | assumption | refine Ext.alloc ?_ _ | refine Ext.drew ?_ | refine Ext.trans ?_ (by assumption)))
  obtain ⟨wb, hwb⟩ : ∃ wb : World, wb = w1 := ⟨_, rfl⟩
  subst hwb
  clear hw1
  refine (prk_impl _ n a c vs (hR.ext hw)).mono ?_
  rintro e w2 ⟨v, rfl, hv, hw2⟩
  have hs := hw.size
  obtain ⟨y, ys, hys⟩ := rank1 (show (prkO n vs).length = n from prkO_full n1 n2 H0.out) n1
  have HY := hide hys
  rw [hys] at hv
  clear hys
  obtain ⟨av, cv, rfl, hcv, _, hRv, _⟩ := hv.val
  obtain ⟨b, off, rfl, c0⟩ := hRv.at_ (k := 0) (x := y) rfl
  rw [Nat.add_zero] at c0
  have hl : 0 < (y :: ys).length := by simp
  have hO := OwnI.lit1 w2 y
  clear hv hRv
  go_wp2
  go_ret
  exact ⟨_, rfl, by rw [HV.out, HY.out]; exact hO.base (hw.trans hw2).size, hw.trans (hw2.trans (Ext.new _ _))⟩

set_option maxRecDepth 100000 in
set_option maxHeartbeats 2000000 in
theorem winI13 (w : World) (n : Nat) (a : Option Addr) (c : Nat) (vs : List Vt) (hR : RdV w a vs) (h0 : profOk n vs = true) :
    Calls Tryz.prog 30 #[.int .i64 13, .agg #[.int .i64 n, .slice a vs.length c]] w fun e w' => ∃ v, e = .returned v ∧ OwnI w' w.heap.size v (winL 13 n vs) ∧ Ext w w' := by
  have q0 := new0 w (.int .i64 n) [.slice a vs.length c] 26
  have q1 := new1 w (.int .i64 n) (.slice a vs.length c) [] 26
  have n1 : 1 ≤ n := by have := prof_size h0; omega
  have n2 : n ≤ 5 := by have := prof_size h0; omega
  have HV : Hid (winL 13 n vs = (kemO n vs).take 1) := rfl
  have H0 := hide h0
  go_enter Tryz.func30, Tryz.ntmps30
  go_wp2_with (go_at_call 25; refine (prof_impl _ _ _ _ _ (hR.ext (by repeat (first | exact Ext.refl _ | assumption | refine Ext.alloc ?_ _ | refine Ext.drew ?_ | refine Ext.trans ?_ (by assumption))))).mono ?_; rintro e w1 ⟨rfl, hw1⟩; have q0 := Ext.keep (w' := w1) (by repeat (first | exact Ext.refl _ | assumption | refine Ext.alloc ?_ _ | refine Ext.drew ?_ | refine Ext.trans ?_ (by assumption))) q0; have q1 := Ext.keep (w' := w1) (by repeat (first | exact Ext.refl _ | assumption | refine Ext.alloc ?_ _ | refine Ext.drew ?_ | refine Ext.trans ?_ (by assumption))) q1)
  clear h0
  have hw : Ext w w1 := (by repeat (first | exact Ext.refl _ | assumption | refine Ext.alloc ?_ _ | refine Ext.drew ?_ | refine Ext.trans ?_ (by assumption)))
  obtain ⟨wb, hwb⟩ : ∃ wb : World, wb = w1 := ⟨_, rfl⟩
  subst hwb
  clear hw1
  refine (kem_impl _ n a c vs (hR.ext hw) H0.out).mono ?_
  rintro e w2 ⟨v, rfl, hv, hw2⟩
  have hs := hw.size
  obtain ⟨y, ys, hys⟩ := rank1 (show (kemO n vs).length = n from kemO_full n1 n2 H0.out) n1
  have HY := hide hys
  rw [hys] at hv
  clear hys
  obtain ⟨av, cv, rfl, hcv, _, hRv, _⟩ := hv.val
  obtain ⟨b, off, rfl, c0⟩ := hRv.at_ (k := 0) (x := y) rfl
  rw [Nat.add_zero] at c0
  have hl : 0 < (y :: ys).length := by simp
  have hO := OwnI.lit1 w2 y
  clear hv hRv
  go_wp2
  go_ret
  exact ⟨_, rfl, by rw [HV.out, HY.out]; exact hO.base (hw.trans hw2).size, hw.trans (hw2.trans (Ext.new _ _))⟩

set_option maxRecDepth 100000 in
set_option maxHeartbeats 2000000 in
theorem winI0 (w : World) (rule : Int) (n : Nat) (a : Option Addr) (c : Nat) (vs : List Vt) (hR : RdV w a vs) (h0 : profOk n vs = true) (hr : ¬ (1 ≤ rule ∧ rule ≤ 13)) :
    Calls Tryz.prog 30 #[.int .i64 rule, .agg #[.int .i64 n, .slice a vs.length c]] w fun e w' => ∃ v, e = .returned v ∧ OwnI w' w.heap.size v (winL rule n vs) ∧ Ext w w' := by
  have q0 := new0 w (.int .i64 n) [.slice a vs.length c] 26
  have q1 := new1 w (.int .i64 n) (.slice a vs.length c) [] 26
  have HV := hide (winL_out (n := n) (vs := vs) hr)
  have e1 : (rule == 1) = false := by rw [beq_eq_false_iff_ne]; omega
  have e2 : (rule == 2) = false := by rw [beq_eq_false_iff_ne]; omega
  have e3 : (rule == 3) = false := by rw [beq_eq_false_iff_ne]; omega
  have e4 : (rule == 4) = false := by rw [beq_eq_false_iff_ne]; omega
  have e5 : (rule == 5) = false := by rw [beq_eq_false_iff_ne]; omega
  have e6 : (rule == 6) = false := by rw [beq_eq_false_iff_ne]; omega
  have e7 : (rule == 7) = false := by rw [beq_eq_false_iff_ne]; omega
  have e8 : (rule == 8) = false := by rw [beq_eq_false_iff_ne]; omega
  have e9 : (rule == 9) = false := by rw [beq_eq_false_iff_ne]; omega
  have e10 : (rule == 10) = false := by rw [beq_eq_false_iff_ne]; omega
  have e11 : (rule == 11) = false := by rw [beq_eq_false_iff_ne]; omega
  have e12 : (rule == 12) = false := by rw [beq_eq_false_iff_ne]; omega
  have e13 : (rule == 13) = false := by rw [beq_eq_false_iff_ne]; omega
  clear hr
  go_enter Tryz.func30, Tryz.ntmps30
  go_wp2_with (go_at_call 25; refine (prof_impl _ _ _ _ _ (hR.ext (by repeat (first | exact Ext.refl _ | assumption | refine Ext.alloc ?_ _ | refine Ext.drew ?_ | refine Ext.trans ?_ (by assumption))))).mono ?_; rintro e w1 ⟨rfl, hw1⟩; have q0 := Ext.keep (w' := w1) (by repeat (first | exact Ext.refl _ | assumption | refine Ext.alloc ?_ _ | refine Ext.drew ?_ | refine Ext.trans ?_ (by assumption))) q0; have q1 := Ext.keep (w' := w1) (by repeat (first | exact Ext.refl _ | assumption | refine Ext.alloc ?_ _ | refine Ext.drew ?_ | refine Ext.trans ?_ (by assumption))) q1)
  go_ret
  exact ⟨_, rfl, by rw [HV.out]; exact OwnI.nil _ _, (by repeat (first | exact Ext.refl _ | assumption | refine Ext.alloc ?_ _ | refine Ext.drew ?_ | refine Ext.trans ?_ (by assumption)))⟩

set_option maxRecDepth 100000 in
theorem wins_impl_ok (w : World) (rule : Int) (n : Nat) (a : Option Addr) (c : Nat) (vs : List Vt) (hR : RdV w a vs) (h0 : profOk n vs = true) :
    Calls Tryz.prog 30 #[.int .i64 rule, .agg #[.int .i64 n, .slice a vs.length c]] w fun e w' => ∃ v, e = .returned v ∧ OwnI w' w.heap.size v (winL rule n vs) ∧ Ext w w' := by
  by_cases hr : 1 ≤ rule ∧ rule ≤ 13
  · have hr : rule = 1 ∨ rule = 2 ∨ rule = 3 ∨ rule = 4 ∨ rule = 5 ∨ rule = 6 ∨ rule = 7 ∨ rule = 8 ∨ rule = 9 ∨ rule = 10 ∨ rule = 11 ∨ rule = 12 ∨ rule = 13 := by omega
    rcases hr with rfl | rfl | rfl | rfl | rfl | rfl | rfl | rfl | rfl | rfl | rfl | rfl | rfl
    · exact winI1 w n a c vs hR h0
    · exact winI2 w n a c vs hR h0
    · exact winI3 w n a c vs hR h0
    · exact winI4 w n a c vs hR h0
    · exact winI5 w n a c vs hR h0
    · exact winI6 w n a c vs hR h0
    · exact winI7 w n a c vs hR h0
    · exact winI8 w n a c vs hR h0
    · exact winI9 w n a c vs hR h0
    · exact winI10 w n a c vs hR h0
    · exact winI11 w n a c vs hR h0
    · exact winI12 w n a c vs hR h0
    · exact winI13 w n a c vs hR h0
  · exact winI0 w rule n a c vs hR h0 hr

set_option maxRecDepth 100000 in
set_option maxHeartbeats 1000000 in
theorem wins_impl (w : World) (rule sz : Int) (a : Option Addr) (c : Nat) (vs : List Vt) (hR : RdV w a vs) :
    Calls Tryz.prog 30 #[.int .i64 rule, .agg #[.int .i64 sz, .slice a vs.length c]] w fun e w' => ∃ v, e = .returned v ∧ OwnI w' w.heap.size v (winO rule sz vs) ∧ Ext w w' := by
  cases h0 : profOk sz vs
  · have q0 := new0 w (.int .i64 sz) [.slice a vs.length c] 26
    have q1 := new1 w (.int .i64 sz) (.slice a vs.length c) [] 26
    go_enter Tryz.func30, Tryz.ntmps30
    go_wp2_with (go_at_call 25; refine (prof_impl _ _ _ _ _ (hR.ext (by repeat (first | exact Ext.refl _ | assumption | refine Ext.alloc ?_ _ | refine Ext.drew ?_ | refine Ext.trans ?_ (by assumption))))).mono ?_; rintro e w1 ⟨rfl, hw1⟩; have q0 := Ext.keep (w' := w1) (by repeat (first | exact Ext.refl _ | assumption | refine Ext.alloc ?_ _ | refine Ext.drew ?_ | refine Ext.trans ?_ (by assumption))) q0; have q1 := Ext.keep (w' := w1) (by repeat (first | exact Ext.refl _ | assumption | refine Ext.alloc ?_ _ | refine Ext.drew ?_ | refine Ext.trans ?_ (by assumption))) q1)
    go_ret
    exact ⟨_, rfl, by simp [winO, h0]; exact OwnI.nil _ _, (by repeat (first | exact Ext.refl _ | assumption | refine Ext.alloc ?_ _ | refine Ext.drew ?_ | refine Ext.trans ?_ (by assumption)))⟩
  · obtain ⟨n, rfl, n1, n2⟩ := prof_nat h0
    have h := wins_impl_ok w rule n a c vs hR h0
    rw [← winO_eq h0] at h
    exact h

set_option maxRecDepth 100000 in
theorem bkS_succ {q : Int → Int → Bool} {r : List Int} {j : Nat} {x : Int} (h : r[j]? = some x) : bkS q r (j + 1) = bkS q r j + (r.take j).countP (fun y => q x y) := by
  have : r.getD j 0 = x := by simp [List.getD, h]
  rw [bkS, this]
set_option maxRecDepth 100000 in
theorem bkS_le {q : Int → Int → Bool} {r : List Int} (hr : r.length ≤ 5) : ∀ j, j ≤ r.length → bkS q r j ≤ 5 * j
  | 0, _ => by simp [bkS]
  | j + 1, h => by
    obtain ⟨x, hx⟩ := at_of_lt (xs := r) (k := j) (by omega)
    have ih := bkS_le (q := q) hr j (by omega)
    have h2 := List.countP_le_length (p := fun y => q x y) (l := r.take j)
    rw [List.length_take] at h2
    rw [bkS_succ hx]
    omega
def leaI (vs : List Vt) (rows : List (List Int)) (k : Nat) : Int := if k = 0 then -1 else (lstT (slaN vs) rows k).2.1

open Go.RowKit

set_option maxRecDepth 100000 in
theorem hasI_place (xs : List Int) (x : Int) : (placeI xs x < 0) ↔ hasI xs x = false := by
  unfold placeI hasI findI
  cases h : xs.findIdx? (fun y => x == y) with
  | none =>
    rw [List.findIdx?_eq_none_iff] at h
    simp only [List.contains_eq_mem]
    constructor
    · intro _
      rw [decide_eq_false_iff_not]
      intro hm
      have := h x hm
      simp at this
    · intro _; decide
  | some i =>
    rw [List.findIdx?_eq_some_iff_getElem] at h
    obtain ⟨hk, h1, _⟩ := h
    simp only [List.contains_eq_mem]
    constructor
    · intro h2; omega
    · intro h2
      rw [decide_eq_false_iff_not] at h2
      rw [beq_iff_eq] at h1
      exact absurd (h1 ▸ List.getElem_mem hk) h2

set_option maxRecDepth 100000 in
theorem insD_rows {vs : List Vt} {es : List RowE} {xss : List (List Int)} {x : List Int} {m : Nat} {e : RowE} (hmap : es.map RowE.xs = sortD (margP vs) xss) (hle : ∀ y ∈ es.take m, margP vs x ≤ margP vs y.xs) (he : m = es.length ∨ ∃ y, es[m]? = some y ∧ margP vs y.xs < margP vs x) (hx : e.xs = x) :
    (es.take m ++ e :: es.drop m).map RowE.xs = sortD (margP vs) (xss ++ [x]) := by
  rw [sortD_snoc, ← hmap, List.map_append, List.map_cons, List.map_take, List.map_drop, hx]
  refine (insD_count (fun y hy => ?_) ?_ ?_).symm
  · rw [← List.map_take] at hy
    obtain ⟨e', he', rfl⟩ := List.mem_map.1 hy
    exact hle e' he'
  · rcases he with he | ⟨y, hy, hlt⟩
    · exact .inl (by rw [List.length_map]; exact he)
    · exact .inr ⟨y.xs, by rw [List.getElem?_map, hy]; rfl, hlt⟩
  · rw [hmap]; exact sortD_desc _ _
set_option maxRecDepth 100000 in
theorem marginO_in {n : Nat} {vs : List Vt} (h0 : profOk n vs = true) {i j : Nat} (hi : i < n) (hj : j < n) : marginO n vs i j = marginV vs i j := by
  have h1 : hasB n i = true := inR_iff.2 (by omega)
  have h2 : hasB n j = true := inR_iff.2 (by omega)
  simp [marginO, h0, h1, h2]
/-- What the list of pairs holds. -/
def PrsS (w : World) (B : Nat) (v : Value) (xss : List (List Int)) : Prop := ∃ es g c, v = .slice (some ⟨g, 0, none⟩) es.length c ∧ es.length ≤ c ∧ LstE w B v es ∧ es.map RowE.xs = xss
set_option maxRecDepth 100000 in
theorem PrsS.ext {w w' : World} {B : Nat} {v : Value} {xss : List (List Int)} (h : PrsS w B v xss) (hw : Ext w w') : PrsS w' B v xss := by
  obtain ⟨es, g, c, hv, hc, hl, hm⟩ := h
  exact ⟨es, g, c, hv, hc, hl.ext hw, hm⟩
set_option maxRecDepth 100000 in
theorem PrsS.made0 (w : World) : PrsS (w.alloc (.cells #[] 28)) w.heap.size (.slice (some ⟨w.heap.size, 0, none⟩) 0 0) [] := ⟨[], _, 0, rfl, Nat.le_refl _, LstE.made0 w, rfl⟩
set_option maxRecDepth 100000 in
theorem PrsS.of {w : World} {B : Nat} {v : Value} {es : List RowE} {xss : List (List Int)} (h : LstE w B v es) (hne : es ≠ []) (hm : es.map RowE.xs = xss) : PrsS w B v xss := by
  have h1 := h
  obtain ⟨hr, _⟩ := h
  rcases hr.two with ⟨rfl, he⟩ | ⟨g, c, rfl, hc, hg, hB⟩
  · exact absurd he hne
  · exact ⟨es, g, c, rfl, hc, h1, hm⟩

set_option maxRecDepth 100000 in
theorem RdE.grown {w w' : World} {g : Nat} {es : List RowE} {row : Option Nat} (h : RdE w (some ⟨g, 0, none⟩) es) (hg : w.grownBy w' row) (hr : row ≠ some g) : RdE w' (some ⟨g, 0, none⟩) es := fun hne => by
  obtain ⟨b, off, e, hc⟩ := h hne
  injection e with e
  injection e with e1 e2
  subst e1 e2
  refine ⟨g, 0, rfl, fun j x hx => ?_⟩
  have := hc j x hx
  exact (World.cell?_of_block (w := w) (hg.block g (World.block_lt_of_cell? w _ this) (fun e => hr e.symm))).trans this

set_option maxRecDepth 100000 in
theorem hasI_left {n : Nat} {out : List Int} {i : Nat} (hi : i < n) : hasI (leftL n out) (i : Int) = !hasI out (i : Int) := by
  cases h : hasI out (i : Int)
  · rw [Bool.not_false]
    exact hasI_iff.2 (leftL_mem.2 ⟨i, hi, (fun hm => by rw [hasI_iff.2 hm] at h; cases h), rfl⟩)
  · rw [Bool.not_true]
    cases h2 : hasI (leftL n out) (i : Int)
    · rfl
    · obtain ⟨k, _, hno, hk⟩ := leftL_mem.1 (hasI_iff.1 h2)
      rw [← hk] at hno
      exact absurd (hasI_iff.1 h) hno
set_option maxRecDepth 100000 in
theorem free_eq {n : Nat} {kept : List (List Int)} {out : List Int} (hk : ∀ x ∈ kept, PairN n x) (j : Int) : freeB kept (leftL n out) j = kept.all (fun x => !(p1 x == j) || hasI out (p0 x)) := by
  unfold freeB
  rw [List.not_any_eq_all_not]
  have key : ∀ x ∈ kept, (!(p1 x == j && hasI (leftL n out) (p0 x))) = (!(p1 x == j) || hasI out (p0 x)) := fun x hx => by
    obtain ⟨a, b, ha, hb, rfl⟩ := hk x hx
    show (!((b : Int) == j && hasI (leftL n out) (a : Int))) = (!((b : Int) == j) || hasI out (a : Int))
    rw [hasI_left ha, Bool.not_and, Bool.not_not]
  rw [Bool.eq_iff_iff, List.all_eq_true, List.all_eq_true]
  exact ⟨fun h x hx => by rw [← key x hx]; exact h x hx, fun h x hx => by rw [key x hx]; exact h x hx⟩
set_option maxRecDepth 100000 in
theorem prk_len_at {kept : List (List Int)} {n k : Nat} : (prL kept n k).length = k := prL_len kept n k

open Go.RowKit

set_option maxRecDepth 100000 in
set_option maxHeartbeats 1000000 in
theorem winb_impl (w : World) (rule sz : Int) (a : Option Addr) (c : Nat) (vs : List Vt) (hR : RdV w a vs) :
    Calls Tryz.prog 9 #[.int .i64 rule, .agg #[.int .i64 sz, .slice a vs.length c]] w fun e w' => e = .returned (.int .i64 (winB rule sz vs)) ∧ Ext w w' := by
  go_enter Tryz.func9, Tryz.ntmps9
  go_wp2_with fail
  refine (wins_impl _ rule sz a c vs (hR.ext (by repeat (first | exact Ext.refl _ | assumption | refine Ext.alloc ?_ _ | refine Ext.drew ?_ | refine Ext.trans ?_ (by assumption))))).mono ?_
  rintro e w1 ⟨v, rfl, hv, hw1⟩
  obtain ⟨av, cv, rfl, _, _, hRv, _⟩ := hv.val
  have hw : Ext w w1 := (by repeat (first | exact Ext.refl _ | assumption | refine Ext.alloc ?_ _ | refine Ext.drew ?_ | refine Ext.trans ?_ (by assumption)))
  have HB : Hid (winB rule sz vs = (winO rule sz vs).headD (-1)) := rfl
  generalize winO rule sz vs = xs at hv hRv HB ⊢
  clear hv hw1
  cases xs with
  | nil =>
    go_wp2
    go_ret
    exact ⟨ret_int HB.out.symm, hw⟩
  | cons x r =>
    obtain ⟨b, off, rfl, c0⟩ := hRv.at_ (k := 0) (x := x) rfl
    rw [Nat.add_zero] at c0
    obtain ⟨n, hn, hn1⟩ : ∃ n : Nat, (x :: r).length = n ∧ 0 < n := ⟨_, rfl, by simp⟩
    rw [hn]
    have t0 : ((n : Int) == 0) = false := by rw [beq_eq_false_iff_ne]; omega
    clear hRv hn
    go_wp2
    go_ret
    exact ⟨ret_int HB.out.symm, hw⟩

noncomputable def miscO (rule sz : Int) (vs : List Vt) : Bool := missB (winB rule sz vs) (winnerO sz vs)

noncomputable def mismO (rule sz : Int) (vs : List Vt) : Bool := missB (winB rule sz vs) (majO sz vs)

set_option maxRecDepth 100000 in
theorem upL_up (n : Nat) (q : Nat → Bool) : (upL n q).Pairwise (· < ·) := by
  unfold upL
  refine List.Pairwise.map _ (fun a b h => ?_) (List.Pairwise.filter _ List.pairwise_lt_range)
  show (a : Int) < (b : Int)
  omega
set_option maxRecDepth 100000 in
theorem one_up {n a : Nat} (ha : a < n) : ∃ q, [(a : Int)] = upL n q := ⟨fun i => decide (i = a), (upL_one ha (by simp) (fun j _ h => by simpa using h)).symm⟩
set_option maxRecDepth 100000 in
theorem best_up {n : Nat} (f : Nat → Int) : ∃ q, bestL (rowL n f) = upL n q := ⟨isMax (rowL n f) (maxL (rowL n f)), by unfold bestL; rw [rowL_len]⟩
set_option maxRecDepth 100000 in
/-- The winners stand in ascending order. -/
theorem win_up {rule : Int} {n : Nat} {vs : List Vt} (h0 : profOk n vs = true) (r1 : 1 ≤ rule) (r2 : rule ≤ 13) : ∃ q, winL rule n vs = upL n q := by
  obtain ⟨a, ha, r, e⟩ := win_some h0 r1 r2
  have one : ∀ {xs : List Int}, xs = (a : Int) :: r → xs.length = 1 → ∃ q, xs = upL n q := fun {xs} h hl => by
    rw [h, List.length_cons] at hl
    have : r = [] := List.length_eq_zero_iff.1 (by omega)
    rw [h, this]
    exact one_up ha
  have hr : rule = 1 ∨ rule = 2 ∨ rule = 3 ∨ rule = 4 ∨ rule = 5 ∨ rule = 6 ∨ rule = 7 ∨ rule = 8 ∨ rule = 9 ∨ rule = 10 ∨ rule = 11 ∨ rule = 12 ∨ rule = 13 := by omega
  rcases hr with rfl | rfl | rfl | rfl | rfl | rfl | rfl | rfl | rfl | rfl | rfl | rfl | rfl
  · exact best_up _
  · exact best_up _
  · exact best_up _
  · show ∃ q, bestL (copeO n vs) = upL n q
    unfold copeO
    rw [if_pos h0, Int.toNat_natCast]
    exact best_up _
  · show ∃ q, bestL (maxiO n vs) = upL n q
    unfold maxiO
    rw [if_pos h0, Int.toNat_natCast]
    exact best_up _
  · exact one e rfl
  · exact one e rfl
  · exact one e rfl
  · exact one e rfl
  · exact one e rfl
  · show ∃ q, schO n vs = upL n q
    unfold schO thoseO
    rw [if_pos h0, Int.toNat_natCast]
    exact ⟨_, rfl⟩
  · refine one e ?_
    have h1 : (winL 12 n vs).length ≤ 1 := by
      show ((prkO n vs).take 1).length ≤ 1
      rw [List.length_take]; omega
    have h2 := congrArg List.length e
    rw [List.length_cons] at h2
    omega
  · refine one e ?_
    have h1 : (winL 13 n vs).length ≤ 1 := by
      show ((kemO n vs).take 1).length ≤ 1
      rw [List.length_take]; omega
    have h2 := congrArg List.length e
    rw [List.length_cons] at h2
    omega
set_option maxRecDepth 100000 in
theorem up_at {n : Nat} {q : Nat → Bool} {i : Nat} {x : Int} (h : (upL n q)[i]? = some x) : 0 ≤ x ∧ x < n := by
  obtain ⟨k, hk, _, e⟩ := upL_mem.1 (List.mem_of_getElem? h)
  omega
set_option maxRecDepth 100000 in
theorem up_lt {n : Nat} {q : Nat → Bool} {i : Nat} {x y : Int} (hx : (upL n q)[i]? = some x) (hy : (upL n q)[i + 1]? = some y) : x < y := by
  have l1 := lt_of_at hx
  have l2 := lt_of_at hy
  have := List.pairwise_iff_getElem.1 (upL_up n q) i (i + 1) l1 l2 (by omega)
  rw [List.getElem?_eq_getElem l1] at hx
  rw [List.getElem?_eq_getElem l2] at hy
  injection hx with hx
  injection hy with hy
  rw [← hx, ← hy]
  exact this

/-- How many rules there are by which one of the first k candidates wins. -/
noncomputable def rulT (n : Nat) (vs : List Vt) : Nat → Nat
  | 0 => 0
  | k + 1 => rulT n vs k + (rulO n vs k).length
set_option maxRecDepth 100000 in
theorem rulL_cnt (sz : Int) (vs : List Vt) (a : Int) (m : Nat) : (rulL sz vs a m).length = cntN m (fun i => decide (winB ((i : Int) + 1) sz vs = a)) := by
  unfold rulL cntN
  rw [List.length_map, List.countP_eq_length_filter]
set_option maxRecDepth 100000 in
theorem cnt_parts {f : Nat → Int} {n : Nat} : ∀ {m : Nat}, (∀ i, i < m → 0 ≤ f i ∧ f i < n) → ∀ T : Nat → Nat, T 0 = 0 → (∀ k, T (k + 1) = T k + cntN m (fun i => decide (f i = (k : Int)))) → T n = m := by
  intro m h T h0 hs
  have key : ∀ k, T k = cntN m (fun i => decide (f i < (k : Int))) := by
    intro k
    induction k with
    | zero =>
      rw [h0]
      refine (cntN_none.2 (allN_t fun i hi => ?_)).symm
      have := h i hi
      simp; omega
    | succ k ih =>
      rw [hs, ih]
      have : ∀ m', cntN m' (fun i => decide (f i < (k : Int))) + cntN m' (fun i => decide (f i = (k : Int))) = cntN m' (fun i => decide (f i < ((k + 1 : Nat) : Int))) := by
        intro m'
        induction m' with
        | zero => rfl
        | succ m' ih2 =>
          rw [cntN_succ, cntN_succ, cntN_succ, ← ih2]
          by_cases h1 : f m' < (k : Int)
          · have h2 : ¬ f m' = (k : Int) := by omega
            have h3 : f m' < ((k + 1 : Nat) : Int) := by omega
            simp only [h1, h2, h3, decide_true, decide_false, if_true, Bool.false_eq_true, if_false]
            omega
          · by_cases h2 : f m' = (k : Int)
            · simp only [h2, decide_true, if_true]
              have h4 : (k : Int) < ((k + 1 : Nat) : Int) := by omega
              simp only [Int.lt_irrefl, h4, decide_true, decide_false, if_true, Bool.false_eq_true, if_false]
              omega
            · have h3 : ¬ f m' < ((k + 1 : Nat) : Int) := by omega
              simp only [h1, h2, h3, decide_false, Bool.false_eq_true, if_false]
              omega
      exact this m
  rw [key n]
  exact cntN_all.2 (allN_t fun i hi => by have := h i hi; simp; omega)
set_option maxRecDepth 100000 in
theorem rulT_all {n : Nat} {vs : List Vt} (h0 : profOk n vs = true) : rulT n vs n = 13 := by
  refine cnt_parts (f := fun i => winB ((i : Int) + 1) n vs) (m := 13) (fun i hi => ?_) (rulT n vs) rfl (fun k => ?_)
  · obtain ⟨a, ha, e⟩ := winB_some (rule := (i : Int) + 1) h0 (by omega) (by omega)
    show 0 ≤ winB ((i : Int) + 1) n vs ∧ winB ((i : Int) + 1) n vs < n
    omega
  · rw [rulT, show (rulO n vs k).length = cntN 13 (fun i => decide (winB ((i : Int) + 1) n vs = (k : Int))) by
      unfold rulO; rw [if_pos h0, rulL_cnt]]
set_option maxRecDepth 100000 in
theorem rulT_le (n : Nat) (vs : List Vt) : ∀ k, rulT n vs k ≤ 13 * k
  | 0 => Nat.le_refl _
  | k + 1 => by
    have := rulT_le n vs k
    have := rulO_len n vs k
    rw [rulT]; omega
set_option maxRecDepth 100000 in
theorem rul_at {n : Nat} {vs : List Vt} {a : Int} {j : Nat} {r : Int} (h : (rulO n vs a)[j]? = some r) : 1 ≤ r ∧ r ≤ 13 ∧ winB r n vs = a := by
  have hm := List.mem_of_getElem? h
  unfold rulO at hm
  split at hm
  · unfold rulL at hm
    obtain ⟨i, hi, rfl⟩ := List.mem_map.1 hm
    rw [List.mem_filter, List.mem_range] at hi
    have := hi.2
    simp only [decide_eq_true_eq] at this
    exact ⟨by omega, by omega, this⟩
  · simp at hm
set_option maxRecDepth 100000 in
/-- The winners of a rule: the first of them is the winner. -/
theorem win_headB {rule : Int} {n : Nat} {vs : List Vt} (h0 : profOk n vs = true) (r1 : 1 ≤ rule) (r2 : rule ≤ 13) : ∃ a : Nat, a < n ∧ winB rule n vs = a ∧ 1 ≤ (winO rule n vs).length ∧ (winO rule n vs)[0]? = some (a : Int) := by
  obtain ⟨a, ha, r, e⟩ := win_some h0 r1 r2
  have e2 : winO rule n vs = (a : Int) :: r := by rw [winO_eq h0, e]
  exact ⟨a, ha, by unfold winB; rw [e2]; rfl, by rw [e2]; simp, by rw [e2]; rfl⟩
set_option maxRecDepth 100000 in
/-- A spoiler: one without which another one wins. -/
theorem spo_cases (rule : Int) {n : Nat} {vs : List Vt} (h0 : profOk n vs = true) (r1 : 1 ≤ rule) (r2 : rule ≤ 13) : spoO rule n vs = -1 ∨ ∃ x : Nat, x < n ∧ 2 ≤ n ∧ spoO rule n vs = x ∧ winB rule n vs ≠ x ∧ winB rule ((n : Int) - 1) (mapV (dropL x) vs) ≠ (if (x : Int) < winB rule n vs then winB rule n vs - 1 else winB rule n vs) := by
  obtain ⟨a, ha, ea⟩ := winB_some h0 r1 r2
  unfold spoO
  rw [if_neg (by rw [ea]; omega), Int.toNat_natCast]
  unfold firstN
  cases h : (List.range n).find? (spoQ rule n vs (winB rule n vs)) with
  | none => exact .inl rfl
  | some x =>
    have hx := List.mem_range.1 (List.mem_of_find?_eq_some h)
    have hq := List.find?_some h
    unfold spoQ at hq
    simp only [Bool.and_eq_true, Bool.not_eq_true', beq_eq_false_iff_ne] at hq
    refine .inr ⟨x, hx, ?_, rfl, fun e => hq.1 e.symm, hq.2⟩
    by_cases h1 : n = 1
    · exfalso
      apply hq.1
      rw [ea]
      omega
    · omega

end Go.Proofs.YtfmeklgdaabooaaGreatDoor
