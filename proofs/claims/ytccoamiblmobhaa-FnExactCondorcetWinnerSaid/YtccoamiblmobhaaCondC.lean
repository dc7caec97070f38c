/- Condorcet winner and loser, the unbeaten: both sides. -/
import Derived.Test.YtccoamiblmobhaaCond
namespace Go.Proofs.Ytccoamiblmobhaa
open Go.RowKit

def loserO (sz : Int) (vs : List Vt) : Int := onlyL (thoseO sz vs (fun i j => bt vs j i))
def winnerO (sz : Int) (vs : List Vt) : Int := onlyL (thoseO sz vs (bt vs))
theorem smallL (n : Nat) (vs : List Vt) : (upsL n vs).length = n ∧ (dnsL n vs).length = n := ⟨rowL_len _ _, rowL_len _ _⟩

theorem small_up {n : Nat} (h : n ≤ 5) (vs : List Vt) : (upsL n vs).length ≤ 2000000 := by have := smallL n vs; omega
theorem small_dn {n : Nat} (h : n ≤ 5) (vs : List Vt) : (dnsL n vs).length ≤ 2000000 := by have := smallL n vs; omega

set_option maxHeartbeats 1000000 in
theorem loser_spec (w : World) (sz : Int) (a : Option Addr) (c : Nat) (vs : List Vt) (hR : RdV w a vs) :
    Calls Try.prog 26 #[.agg #[.int .i64 sz, .slice a vs.length c]] w fun e w' => e = .returned (.int .i64 (loserO sz vs)) ∧ Ext w w' := by
  have q0 := new0 w (.int .i64 sz) [.slice a vs.length c] 29
  have q1 := new1 w (.int .i64 sz) (.slice a vs.length c) [] 29
  cases h0 : profOk sz vs
  · go_enter Try.func26, Try.ntmps26
    go_wp2_with (go_at_call 50; refine (prof_spec _ _ _ _ _ (hR.ext (by repeat (first | exact Ext.refl _ | assumption | refine Ext.alloc ?_ _ | refine Ext.drew ?_ | refine Ext.trans ?_ (by assumption))))).mono ?_; rintro e w1 ⟨rfl, hw1⟩; have q0 := Ext.keep (w' := w1) (by repeat (first | exact Ext.refl _ | assumption | refine Ext.alloc ?_ _ | refine Ext.drew ?_ | refine Ext.trans ?_ (by assumption))) q0; have q1 := Ext.keep (w' := w1) (by repeat (first | exact Ext.refl _ | assumption | refine Ext.alloc ?_ _ | refine Ext.drew ?_ | refine Ext.trans ?_ (by assumption))) q1)
    go_ret
    exact ⟨ret_int (by simp [loserO, thoseO, h0, onlyL]), (by repeat (first | exact Ext.refl _ | assumption | refine Ext.alloc ?_ _ | refine Ext.drew ?_ | refine Ext.trans ?_ (by assumption)))⟩
  obtain ⟨n, rfl, n1, n2⟩ := prof_nat h0
  have HS := hide (prof_small h0)
  go_enter Try.func26, Try.ntmps26
  go_wp2_with (go_at_call 50; refine (prof_spec _ _ _ _ _ (hR.ext (by repeat (first | exact Ext.refl _ | assumption | refine Ext.alloc ?_ _ | refine Ext.drew ?_ | refine Ext.trans ?_ (by assumption))))).mono ?_; rintro e w1 ⟨rfl, hw1⟩; have q0 := Ext.keep (w' := w1) (by repeat (first | exact Ext.refl _ | assumption | refine Ext.alloc ?_ _ | refine Ext.drew ?_ | refine Ext.trans ?_ (by assumption))) q0; have q1 := Ext.keep (w' := w1) (by repeat (first | exact Ext.refl _ | assumption | refine Ext.alloc ?_ _ | refine Ext.drew ?_ | refine Ext.trans ?_ (by assumption))) q1)
  refine (sums_spec _ n a c vs (hR.ext (by repeat (first | exact Ext.refl _ | assumption | refine Ext.alloc ?_ _ | refine Ext.drew ?_ | refine Ext.trans ?_ (by assumption)))) HS.out n2).mono ?_
  rintro e w2 ⟨v1, v2, rfl, hv1, hv2, hw2⟩
  obtain ⟨a2, c2, rfl, _, hR2, _⟩ := hv2.fr
  go_wp2_with (go_at_call 64; refine (full_spec _ _ _ _ (hR2.ext (by repeat (first | exact Ext.refl _ | assumption | refine Ext.alloc ?_ _ | refine Ext.drew ?_ | refine Ext.trans ?_ (by assumption)))) (small_dn n2 vs)).mono ?_; rintro e w1 ⟨rfl, hw1⟩)
  go_ret
  refine ⟨ret_int ?_, (by repeat (first | exact Ext.refl _ | assumption | refine Ext.alloc ?_ _ | refine Ext.drew ?_ | refine Ext.trans ?_ (by assumption)))⟩
  have hf := full_only (n := n) (B := fun i j => bt vs j i) n1 (fun i j h => bt_anti vs j i h)
  simp only [loserO, thoseO, h0, if_true, Int.toNat_natCast]
  exact hf

set_option maxHeartbeats 1000000 in
theorem winner_spec (w : World) (sz : Int) (a : Option Addr) (c : Nat) (vs : List Vt) (hR : RdV w a vs) :
    Calls Try.prog 28 #[.agg #[.int .i64 sz, .slice a vs.length c]] w fun e w' => e = .returned (.int .i64 (winnerO sz vs)) ∧ Ext w w' := by
  have q0 := new0 w (.int .i64 sz) [.slice a vs.length c] 29
  have q1 := new1 w (.int .i64 sz) (.slice a vs.length c) [] 29
  cases h0 : profOk sz vs
  · go_enter Try.func28, Try.ntmps28
    go_wp2_with (go_at_call 50; refine (prof_spec _ _ _ _ _ (hR.ext (by repeat (first | exact Ext.refl _ | assumption | refine Ext.alloc ?_ _ | refine Ext.drew ?_ | refine Ext.trans ?_ (by assumption))))).mono ?_; rintro e w1 ⟨rfl, hw1⟩; have q0 := Ext.keep (w' := w1) (by repeat (first | exact Ext.refl _ | assumption | refine Ext.alloc ?_ _ | refine Ext.drew ?_ | refine Ext.trans ?_ (by assumption))) q0; have q1 := Ext.keep (w' := w1) (by repeat (first | exact Ext.refl _ | assumption | refine Ext.alloc ?_ _ | refine Ext.drew ?_ | refine Ext.trans ?_ (by assumption))) q1)
    go_ret
    exact ⟨ret_int (by simp [winnerO, thoseO, h0, onlyL]), (by repeat (first | exact Ext.refl _ | assumption | refine Ext.alloc ?_ _ | refine Ext.drew ?_ | refine Ext.trans ?_ (by assumption)))⟩
  obtain ⟨n, rfl, n1, n2⟩ := prof_nat h0
  have HS := hide (prof_small h0)
  go_enter Try.func28, Try.ntmps28
  go_wp2_with (go_at_call 50; refine (prof_spec _ _ _ _ _ (hR.ext (by repeat (first | exact Ext.refl _ | assumption | refine Ext.alloc ?_ _ | refine Ext.drew ?_ | refine Ext.trans ?_ (by assumption))))).mono ?_; rintro e w1 ⟨rfl, hw1⟩; have q0 := Ext.keep (w' := w1) (by repeat (first | exact Ext.refl _ | assumption | refine Ext.alloc ?_ _ | refine Ext.drew ?_ | refine Ext.trans ?_ (by assumption))) q0; have q1 := Ext.keep (w' := w1) (by repeat (first | exact Ext.refl _ | assumption | refine Ext.alloc ?_ _ | refine Ext.drew ?_ | refine Ext.trans ?_ (by assumption))) q1)
  refine (sums_spec _ n a c vs (hR.ext (by repeat (first | exact Ext.refl _ | assumption | refine Ext.alloc ?_ _ | refine Ext.drew ?_ | refine Ext.trans ?_ (by assumption)))) HS.out n2).mono ?_
  rintro e w2 ⟨v1, v2, rfl, hv1, hv2, hw2⟩
  obtain ⟨a2, c2, rfl, _, hR2, _⟩ := hv1.fr
  go_wp2_with (go_at_call 64; refine (full_spec _ _ _ _ (hR2.ext (by repeat (first | exact Ext.refl _ | assumption | refine Ext.alloc ?_ _ | refine Ext.drew ?_ | refine Ext.trans ?_ (by assumption)))) (small_up n2 vs)).mono ?_; rintro e w1 ⟨rfl, hw1⟩)
  go_ret
  refine ⟨ret_int ?_, (by repeat (first | exact Ext.refl _ | assumption | refine Ext.alloc ?_ _ | refine Ext.drew ?_ | refine Ext.trans ?_ (by assumption)))⟩
  have hf := full_only (n := n) (B := bt vs) n1 (fun i j h => bt_anti vs i j h)
  simp only [winnerO, thoseO, h0, if_true, Int.toNat_natCast]
  exact hf

set_option maxHeartbeats 1000000 in
theorem winF (w : World) (n : Nat) (g : Nat) (a : Option Addr) (c : Nat) (vs : List Vt) (i j : Nat) (h0 : w.cell? ⟨g, 0, none⟩ = some (.int .i64 n)) (h1 : w.cell? ⟨g, 1, none⟩ = some (.slice a vs.length c)) (hR : RdV w a vs) (hS : SmallV n vs) :
    Calls Try.prog 67 #[.int .i64 i, .int .i64 j, .pointer (some ⟨g, 0, none⟩)] w fun e w' => e = .returned (.bool (bt vs i j)) ∧ Ext w w' := by
  have HS := hide hS
  clear hS
  go_enter Try.func67, Try.ntmps67
  go_wp2_with (go_at_call 62; refine (beats_impl _ _ _ _ _ _ _ hR HS.out).mono ?_; rintro e w1 ⟨rfl, hw1⟩)
  go_ret
  exact ⟨rfl, hw1⟩
set_option maxHeartbeats 1000000 in
theorem loseF (w : World) (n : Nat) (g : Nat) (a : Option Addr) (c : Nat) (vs : List Vt) (i j : Nat) (h0 : w.cell? ⟨g, 0, none⟩ = some (.int .i64 n)) (h1 : w.cell? ⟨g, 1, none⟩ = some (.slice a vs.length c)) (hR : RdV w a vs) (hS : SmallV n vs) :
    Calls Try.prog 66 #[.int .i64 i, .int .i64 j, .pointer (some ⟨g, 0, none⟩)] w fun e w' => e = .returned (.bool (bt vs j i)) ∧ Ext w w' := by
  have HS := hide hS
  clear hS
  go_enter Try.func66, Try.ntmps66
  go_wp2_with (go_at_call 62; refine (beats_impl _ _ _ _ _ _ _ hR HS.out).mono ?_; rintro e w1 ⟨rfl, hw1⟩)
  go_ret
  exact ⟨rfl, hw1⟩
set_option maxHeartbeats 1000000 in
theorem unbF (w : World) (n : Nat) (g : Nat) (a : Option Addr) (c : Nat) (vs : List Vt) (i j : Nat) (h0 : w.cell? ⟨g, 0, none⟩ = some (.int .i64 n)) (h1 : w.cell? ⟨g, 1, none⟩ = some (.slice a vs.length c)) (hR : RdV w a vs) (hS : SmallV n vs) :
    Calls Try.prog 69 #[.int .i64 i, .int .i64 j, .pointer (some ⟨g, 0, none⟩)] w fun e w' => e = .returned (.bool (!bt vs j i)) ∧ Ext w w' := by
  have HS := hide hS
  clear hS
  go_enter Try.func69, Try.ntmps69
  go_wp2_with (go_at_call 62; refine (beats_impl _ _ _ _ _ _ _ hR HS.out).mono ?_; rintro e w1 ⟨rfl, hw1⟩)
  go_ret
  exact ⟨rfl, hw1⟩
set_option maxHeartbeats 1000000 in
theorem uncF (w : World) (n : Nat) (g : Nat) (a : Option Addr) (c : Nat) (vs : List Vt) (i j : Nat) (hn : n ≤ 5) (h0 : w.cell? ⟨g, 0, none⟩ = some (.int .i64 n)) (h1 : w.cell? ⟨g, 1, none⟩ = some (.slice a vs.length c)) (hR : RdV w a vs) (hS : SmallV n vs) :
    Calls Try.prog 72 #[.int .i64 i, .int .i64 j, .pointer (some ⟨g, 0, none⟩)] w fun e w' => e = .returned (.bool (!coversV n vs j i)) ∧ Ext w w' := by
  have HS := hide hS
  clear hS
  go_enter Try.func72, Try.ntmps72
  go_wp2_with (go_at_call 60; refine (covers_impl _ _ _ _ _ _ _ hR HS.out hn).mono ?_; rintro e w1 ⟨rfl, hw1⟩)
  go_ret
  exact ⟨rfl, hw1⟩

set_option maxHeartbeats 1000000 in
theorem winner_impl (w : World) (sz : Int) (a : Option Addr) (c : Nat) (vs : List Vt) (hR : RdV w a vs) :
    Calls Try.prog 29 #[.agg #[.int .i64 sz, .slice a vs.length c]] w fun e w' => e = .returned (.int .i64 (winnerO sz vs)) ∧ Ext w w' := by
  go_enter Try.func29, Try.ntmps29
  go_wp2_with fail
  refine (only_impl 67 _ (bt vs) _ sz a c vs (hR.ext (by repeat (first | exact Ext.refl _ | assumption | refine Ext.alloc ?_ _ | refine Ext.drew ?_ | refine Ext.trans ?_ (by assumption)))) Try.call67 ?_).mono ?_
  · rintro n i j w' rfl hn hS hi hj hw'
    exact winF w' n _ a c vs i j (hw'.keep (new0 w _ _ _)) (hw'.keep (new1 w _ _ _ _)) (hR.ext (Ext.trans (by repeat (first | exact Ext.refl _ | assumption | refine Ext.alloc ?_ _ | refine Ext.drew ?_ | refine Ext.trans ?_ (by assumption))) hw')) hS
  rintro e w1 ⟨rfl, hw1⟩
  go_wp2
  go_ret
  exact ⟨rfl, (by repeat (first | exact Ext.refl _ | assumption | refine Ext.alloc ?_ _ | refine Ext.drew ?_ | refine Ext.trans ?_ (by assumption)))⟩
set_option maxHeartbeats 1000000 in
theorem loser_impl (w : World) (sz : Int) (a : Option Addr) (c : Nat) (vs : List Vt) (hR : RdV w a vs) :
    Calls Try.prog 27 #[.agg #[.int .i64 sz, .slice a vs.length c]] w fun e w' => e = .returned (.int .i64 (loserO sz vs)) ∧ Ext w w' := by
  go_enter Try.func27, Try.ntmps27
  go_wp2_with fail
  refine (only_impl 66 _ (fun i j => bt vs j i) _ sz a c vs (hR.ext (by repeat (first | exact Ext.refl _ | assumption | refine Ext.alloc ?_ _ | refine Ext.drew ?_ | refine Ext.trans ?_ (by assumption)))) Try.call66 ?_).mono ?_
  · rintro n i j w' rfl hn hS hi hj hw'
    exact loseF w' n _ a c vs i j (hw'.keep (new0 w _ _ _)) (hw'.keep (new1 w _ _ _ _)) (hR.ext (Ext.trans (by repeat (first | exact Ext.refl _ | assumption | refine Ext.alloc ?_ _ | refine Ext.drew ?_ | refine Ext.trans ?_ (by assumption))) hw')) hS
  rintro e w1 ⟨rfl, hw1⟩
  go_wp2
  go_ret
  exact ⟨rfl, (by repeat (first | exact Ext.refl _ | assumption | refine Ext.alloc ?_ _ | refine Ext.drew ?_ | refine Ext.trans ?_ (by assumption)))⟩

def unbO (sz : Int) (vs : List Vt) : List Int := thoseO sz vs (fun i j => !bt vs j i)
def uncO (sz : Int) (vs : List Vt) : List Int := thoseO sz vs (fun i j => !coversV sz.toNat vs j i)
theorem thoseO_len (sz : Int) (vs : List Vt) (p : Nat → Nat → Bool) : (thoseO sz vs p).length ≤ 5 := by
  unfold thoseO
  cases h0 : profOk sz vs
  · simp
  · obtain ⟨n, rfl, n1, n2⟩ := prof_nat h0
    have := upL_len n (thoseP n p)
    simp; omega
theorem unbO_len (sz : Int) (vs : List Vt) : (unbO sz vs).length ≤ 5 := thoseO_len _ _ _
theorem uncO_len (sz : Int) (vs : List Vt) : (uncO sz vs).length ≤ 5 := thoseO_len _ _ _
set_option maxHeartbeats 1000000 in
theorem unb_impl (w : World) (sz : Int) (a : Option Addr) (c : Nat) (vs : List Vt) (hR : RdV w a vs) :
    Calls Try.prog 31 #[.agg #[.int .i64 sz, .slice a vs.length c]] w fun e w' => ∃ v, e = .returned v ∧ OwnI w' w.heap.size v (unbO sz vs) ∧ Ext w w' := by
  go_enter Try.func31, Try.ntmps31
  go_wp2_with fail
  refine (those_impl 69 _ (fun i j => !bt vs j i) _ sz a c vs (hR.ext (by repeat (first | exact Ext.refl _ | assumption | refine Ext.alloc ?_ _ | refine Ext.drew ?_ | refine Ext.trans ?_ (by assumption)))) Try.call69 ?_).mono ?_
  · rintro n i j w' rfl hn hS hi hj hw'
    exact unbF w' n _ a c vs i j (hw'.keep (new0 w _ _ _)) (hw'.keep (new1 w _ _ _ _)) (hR.ext (Ext.trans (by repeat (first | exact Ext.refl _ | assumption | refine Ext.alloc ?_ _ | refine Ext.drew ?_ | refine Ext.trans ?_ (by assumption))) hw')) hS
  rintro e w1 ⟨v, rfl, hv, hw1⟩
  go_wp2
  go_ret
  exact ⟨_, rfl, hv.base (by simp), (by repeat (first | exact Ext.refl _ | assumption | refine Ext.alloc ?_ _ | refine Ext.drew ?_ | refine Ext.trans ?_ (by assumption)))⟩
set_option maxHeartbeats 1000000 in
theorem unc_impl (w : World) (sz : Int) (a : Option Addr) (c : Nat) (vs : List Vt) (hR : RdV w a vs) :
    Calls Try.prog 42 #[.agg #[.int .i64 sz, .slice a vs.length c]] w fun e w' => ∃ v, e = .returned v ∧ OwnI w' w.heap.size v (uncO sz vs) ∧ Ext w w' := by
  go_enter Try.func42, Try.ntmps42
  go_wp2_with fail
  refine (those_impl 72 _ (fun i j => !coversV sz.toNat vs j i) _ sz a c vs (hR.ext (by repeat (first | exact Ext.refl _ | assumption | refine Ext.alloc ?_ _ | refine Ext.drew ?_ | refine Ext.trans ?_ (by assumption)))) Try.call72 ?_).mono ?_
  · rintro n i j w' rfl hn hS hi hj hw'
    exact uncF w' n _ a c vs i j hn (hw'.keep (new0 w _ _ _)) (hw'.keep (new1 w _ _ _ _)) (hR.ext (Ext.trans (by repeat (first | exact Ext.refl _ | assumption | refine Ext.alloc ?_ _ | refine Ext.drew ?_ | refine Ext.trans ?_ (by assumption))) hw')) hS
  rintro e w1 ⟨v, rfl, hv, hw1⟩
  go_wp2
  go_ret
  exact ⟨_, rfl, hv.base (by simp), (by repeat (first | exact Ext.refl _ | assumption | refine Ext.alloc ?_ _ | refine Ext.drew ?_ | refine Ext.trans ?_ (by assumption)))⟩

set_option maxHeartbeats 4000000 in
theorem unb_spec (w : World) (sz : Int) (a : Option Addr) (c : Nat) (vs : List Vt) (hR : RdV w a vs) :
    Calls Try.prog 30 #[.agg #[.int .i64 sz, .slice a vs.length c]] w fun e w' => ∃ v, e = .returned v ∧ OwnI w' w.heap.size v (unbO sz vs) ∧ Ext w w' := by
  have q0 := new0 w (.int .i64 sz) [.slice a vs.length c] 29
  have q1 := new1 w (.int .i64 sz) (.slice a vs.length c) [] 29
  cases h0 : profOk sz vs
  · go_enter Try.func30, Try.ntmps30
    go_wp2_with (go_at_call 50; refine (prof_spec _ _ _ _ _ (hR.ext (by repeat (first | exact Ext.refl _ | assumption | refine Ext.alloc ?_ _ | refine Ext.drew ?_ | refine Ext.trans ?_ (by assumption))))).mono ?_; rintro e w1 ⟨rfl, hw1⟩; have q0 := Ext.keep (w' := w1) (by repeat (first | exact Ext.refl _ | assumption | refine Ext.alloc ?_ _ | refine Ext.drew ?_ | refine Ext.trans ?_ (by assumption))) q0; have q1 := Ext.keep (w' := w1) (by repeat (first | exact Ext.refl _ | assumption | refine Ext.alloc ?_ _ | refine Ext.drew ?_ | refine Ext.trans ?_ (by assumption))) q1)
    go_ret
    exact ⟨_, rfl, by simp [unbO, thoseO, h0]; exact OwnI.nil _ _, (by repeat (first | exact Ext.refl _ | assumption | refine Ext.alloc ?_ _ | refine Ext.drew ?_ | refine Ext.trans ?_ (by assumption)))⟩
  obtain ⟨n, rfl, n1, n2⟩ := prof_nat h0
  have HS := hide (prof_small h0)
  obtain ⟨_, hdl⟩ := smallL n vs
  go_enter Try.func30, Try.ntmps30
  go_wp2_with (go_at_call 50; refine (prof_spec _ _ _ _ _ (hR.ext (by repeat (first | exact Ext.refl _ | assumption | refine Ext.alloc ?_ _ | refine Ext.drew ?_ | refine Ext.trans ?_ (by assumption))))).mono ?_; rintro e w1 ⟨rfl, hw1⟩; have q0 := Ext.keep (w' := w1) (by repeat (first | exact Ext.refl _ | assumption | refine Ext.alloc ?_ _ | refine Ext.drew ?_ | refine Ext.trans ?_ (by assumption))) q0; have q1 := Ext.keep (w' := w1) (by repeat (first | exact Ext.refl _ | assumption | refine Ext.alloc ?_ _ | refine Ext.drew ?_ | refine Ext.trans ?_ (by assumption))) q1)
  refine (sums_spec _ n a c vs (hR.ext (by repeat (first | exact Ext.refl _ | assumption | refine Ext.alloc ?_ _ | refine Ext.drew ?_ | refine Ext.trans ?_ (by assumption)))) HS.out n2).mono ?_
  rintro e w2 ⟨v1, v2, rfl, hv1, hv2, hw2⟩
  obtain ⟨a2, c2, rfl, _, hR2, _⟩ := hv2.fr
  have hw : Ext w w2 := (by repeat (first | exact Ext.refl _ | assumption | refine Ext.alloc ?_ _ | refine Ext.drew ?_ | refine Ext.trans ?_ (by assumption)))
  rw [hdl]
  go_wp2_with fail
  have hO := OwnI.made0 w2
  have hsz := hw.size
  have h20 := Ext.new w2 (.cells #[] 3)
  obtain ⟨W0, hW0⟩ : ∃ W0 : World, W0 = w2.alloc (.cells #[] 3) := ⟨_, rfl⟩
  rw [← hW0] at hO h20 ⊢
  clear hW0
  go_loopw [5, 6, 7, 19] (fun v _ _ i wr => ∃ k : Nat, k ≤ n ∧ i = .int .i64 k ∧ OwnI wr w2.heap.size v (upL k (fun i => decide (cntN n (fun j => bt vs j i) = 0))) ∧ Ext w2 wr) (fun _ _ _ i _ => n - (intOf i).toNat)
  case atStart => exact ⟨0, Nat.zero_le _, rfl, hO, h20⟩
  case round =>
    clear h20 hO
    obtain ⟨i, hi, rfl, hown, hwr⟩ := hrel
    have hul := upL_len i (fun i => decide (cntN n (fun j => bt vs j i) = 0))
    by_cases hit : i < n
    · obtain ⟨b, off, rfl, c0⟩ := (hR2.ext hwr).at_ (rowL_at (f := fun j => ((cntN n (fun i => bt vs i j) : Nat) : Int)) hit)
      by_cases e : cntN n (fun j => bt vs j i) = 0
      · rw [e] at c0
        go_wp2_with (at_builtin; refine wpList_appI w2 _ rfl _ _ rfl _ (upL i (fun i => decide (cntN n (fun j => bt vs j i) = 0))) _ rfl (hown.ext (by repeat (first | exact Ext.refl _ | assumption | refine Ext.alloc ?_ _ | refine Ext.drew ?_ | refine Ext.trans ?_ (by assumption)))) (by repeat (first | exact Ext.refl _ | assumption | refine Ext.alloc ?_ _ | refine Ext.drew ?_ | refine Ext.trans ?_ (by assumption))) rfl (by omega) ?_; intro v' w3 hown3 hw3)
        exact ⟨⟨i + 1, by omega, by go_num, by rw [upL_succ, if_pos (by simp [e])]; exact hown3, (by repeat (first | exact Ext.refl _ | assumption | refine Ext.alloc ?_ _ | refine Ext.drew ?_ | refine Ext.trans ?_ (by assumption)))⟩, by simp [intOf]; omega⟩
      · have e' : ¬ ((cntN n (fun j => bt vs j i) : Nat) : Int) = 0 := by omega
        obtain ⟨x, hx⟩ : ∃ x : Int, x = ((cntN n (fun j => bt vs j i) : Nat) : Int) := ⟨_, rfl⟩
        rw [← hx] at e' c0
        clear hx
        go_wp2
        exact ⟨⟨i + 1, by omega, by go_num, by rw [upL_succ, if_neg (by simp [e])]; simpa using hown, (by repeat (first | exact Ext.refl _ | assumption | refine Ext.alloc ?_ _ | refine Ext.drew ?_ | refine Ext.trans ?_ (by assumption)))⟩, by simp [intOf]; omega⟩
    · have hin : i = n := by omega
      go_wp2
      go_ret
      refine ⟨_, rfl, ?_, hw.trans hwr⟩
      have he : unbO n vs = upL i (fun i => decide (cntN n (fun j => bt vs j i) = 0)) := by
        simp only [unbO, thoseO, h0, if_true, Int.toNat_natCast, hin]
        refine upL_congr (fun k hk => ?_)
        rw [Bool.eq_iff_iff, decide_eq_true_eq, cntN_none]
        unfold thoseP
        rw [allN_iff, allN_iff]
        refine ⟨fun h j hj => ?_, fun h j hj => by simp [h j hj]⟩
        have := h j hj
        by_cases ejk : k = j
        · subst ejk
          cases hb : bt vs k k
          · rfl
          · rw [bt_anti vs k k hb] at hb; cases hb
        · simpa [ejk] using this
      rw [he]
      exact hown.base hsz

set_option maxHeartbeats 4000000 in
theorem unc_spec (w : World) (sz : Int) (a : Option Addr) (c : Nat) (vs : List Vt) (hR : RdV w a vs) :
    Calls Try.prog 41 #[.agg #[.int .i64 sz, .slice a vs.length c]] w fun e w' => ∃ v, e = .returned v ∧ OwnI w' w.heap.size v (uncO sz vs) ∧ Ext w w' := by
  have q0 := new0 w (.int .i64 sz) [.slice a vs.length c] 29
  have q1 := new1 w (.int .i64 sz) (.slice a vs.length c) [] 29
  cases h0 : profOk sz vs
  · go_enter Try.func41, Try.ntmps41
    go_wp2_with (go_at_call 50; refine (prof_spec _ _ _ _ _ (hR.ext (by repeat (first | exact Ext.refl _ | assumption | refine Ext.alloc ?_ _ | refine Ext.drew ?_ | refine Ext.trans ?_ (by assumption))))).mono ?_; rintro e w1 ⟨rfl, hw1⟩; have q0 := Ext.keep (w' := w1) (by repeat (first | exact Ext.refl _ | assumption | refine Ext.alloc ?_ _ | refine Ext.drew ?_ | refine Ext.trans ?_ (by assumption))) q0; have q1 := Ext.keep (w' := w1) (by repeat (first | exact Ext.refl _ | assumption | refine Ext.alloc ?_ _ | refine Ext.drew ?_ | refine Ext.trans ?_ (by assumption))) q1)
    go_ret
    exact ⟨_, rfl, by simp [uncO, thoseO, h0]; exact OwnI.nil _ _, (by repeat (first | exact Ext.refl _ | assumption | refine Ext.alloc ?_ _ | refine Ext.drew ?_ | refine Ext.trans ?_ (by assumption)))⟩
  obtain ⟨n, rfl, n1, n2⟩ := prof_nat h0
  have HS := hide (prof_small h0)
  go_enter Try.func41, Try.ntmps41
  go_wp2_with (go_at_call 50; refine (prof_spec _ _ _ _ _ (hR.ext (by repeat (first | exact Ext.refl _ | assumption | refine Ext.alloc ?_ _ | refine Ext.drew ?_ | refine Ext.trans ?_ (by assumption))))).mono ?_; rintro e w1 ⟨rfl, hw1⟩; have q0 := Ext.keep (w' := w1) (by repeat (first | exact Ext.refl _ | assumption | refine Ext.alloc ?_ _ | refine Ext.drew ?_ | refine Ext.trans ?_ (by assumption))) q0; have q1 := Ext.keep (w' := w1) (by repeat (first | exact Ext.refl _ | assumption | refine Ext.alloc ?_ _ | refine Ext.drew ?_ | refine Ext.trans ?_ (by assumption))) q1)
  have hw : Ext w w1 := (by repeat (first | exact Ext.refl _ | assumption | refine Ext.alloc ?_ _ | refine Ext.drew ?_ | refine Ext.trans ?_ (by assumption)))
  have hO := OwnI.made0 w1
  have hsz := hw.size
  have h20 := Ext.new w1 (.cells #[] 3)
  obtain ⟨W0, hW0⟩ : ∃ W0 : World, W0 = w1.alloc (.cells #[] 3) := ⟨_, rfl⟩
  rw [← hW0] at hO h20 ⊢
  clear hW0
  have hR0 := hR.ext hw
  obtain ⟨wb, hwb⟩ : ∃ wb : World, wb = w1 := ⟨_, rfl⟩
  subst hwb
  obtain ⟨Q, hQ⟩ : ∃ Q : Nat → Bool, Q = fun i : Nat => allN n (fun j => !coversV n vs j (i : Int)) := ⟨_, rfl⟩
  have HQ := hide hQ
  clear hQ
  go_loopw [3, 4, 5, 6] (fun v i _ _ wr => ∃ k : Nat, k ≤ n ∧ i = .int .i64 k ∧ OwnI wr wb.heap.size v (upL k Q) ∧ Ext wb wr) (fun _ i _ _ _ => n - (intOf i).toNat)
  case atStart => exact ⟨0, Nat.zero_le _, rfl, hO, h20⟩
  case round =>
    clear h20 hO
    obtain ⟨i, hi, rfl, hown, hwr⟩ := hrel
    have q0 := hwr.keep q0
    have q1 := hwr.keep q1
    have hul := upL_len i Q
    by_cases hit : i < n
    · go_wp2
      obtain ⟨wo, hwo⟩ : ∃ wo : World, wo = wr := ⟨_, rfl⟩
      subst hwo
      go_loopw [5, 6] (fun b m wr => ∃ k : Nat, k ≤ n ∧ m = .int .i64 k ∧ b = .bool (!allN k (fun j => !coversV n vs j i)) ∧ Ext wo wr) (fun _ m _ => n - (intOf m).toNat)
      case atStart => exact ⟨0, Nat.zero_le _, rfl, rfl, Ext.refl _⟩
      case round =>
        obtain ⟨k, hk, rfl, rfl, hwr'⟩ := hrel
        have q0 := hwr'.keep q0
        have q1 := hwr'.keep q1
        by_cases hlt : k < n
        · cases h1 : allN k (fun j => !coversV n vs j i)
          · go_wp2
            exact ⟨⟨k + 1, by omega, by go_num, by rw [allN_succ, h1]; simp, (by repeat (first | exact Ext.refl _ | assumption | refine Ext.alloc ?_ _ | refine Ext.drew ?_ | refine Ext.trans ?_ (by assumption)))⟩, by simp [intOf]; omega⟩
          · go_wp2_with (go_at_call 59; refine (covers_spec _ _ _ _ _ _ _ (hR0.ext (by repeat (first | exact Ext.refl _ | assumption | refine Ext.alloc ?_ _ | refine Ext.drew ?_ | refine Ext.trans ?_ (by assumption)))) HS.out n2).mono ?_; rintro e w1 ⟨rfl, hw1⟩; have q0 := Ext.keep (w' := w1) (by repeat (first | exact Ext.refl _ | assumption | refine Ext.alloc ?_ _ | refine Ext.drew ?_ | refine Ext.trans ?_ (by assumption))) q0; have q1 := Ext.keep (w' := w1) (by repeat (first | exact Ext.refl _ | assumption | refine Ext.alloc ?_ _ | refine Ext.drew ?_ | refine Ext.trans ?_ (by assumption))) q1)
            exact ⟨⟨k + 1, by omega, by go_num, by rw [allN_succ, h1]; simp, (by repeat (first | exact Ext.refl _ | assumption | refine Ext.alloc ?_ _ | refine Ext.drew ?_ | refine Ext.trans ?_ (by assumption)))⟩, by simp [intOf]; omega⟩
        · have hkn : k = n := by omega
          have hown := hown.ext hwr'
          have HT : allN k (fun j => !coversV n vs j i) = Q i := by rw [HQ.out, hkn]
          rw [HT]
          cases h1 : Q i
          · go_wp2
            exact ⟨⟨i + 1, by omega, by go_num, by rw [upL_succ, h1]; simpa using hown, (by repeat (first | exact Ext.refl _ | assumption | refine Ext.alloc ?_ _ | refine Ext.drew ?_ | refine Ext.trans ?_ (by assumption)))⟩, by simp [intOf]; omega⟩
          · go_wp2_with (at_builtin; refine wpList_appI wb _ rfl _ _ rfl _ (upL i Q) _ rfl (hown.ext (by repeat (first | exact Ext.refl _ | assumption | refine Ext.alloc ?_ _ | refine Ext.drew ?_ | refine Ext.trans ?_ (by assumption)))) (by repeat (first | exact Ext.refl _ | assumption | refine Ext.alloc ?_ _ | refine Ext.drew ?_ | refine Ext.trans ?_ (by assumption))) rfl (by omega) ?_; intro v' w3 hown3 hw3)
            exact ⟨⟨i + 1, by omega, by go_num, by rw [upL_succ, h1]; exact hown3, (by repeat (first | exact Ext.refl _ | assumption | refine Ext.alloc ?_ _ | refine Ext.drew ?_ | refine Ext.trans ?_ (by assumption)))⟩, by simp [intOf]; omega⟩
    · have hin : i = n := by omega
      go_wp2
      go_ret
      refine ⟨_, rfl, ?_, hw.trans hwr⟩
      have he : uncO n vs = upL i Q := by
        rw [HQ.out]
        simp only [uncO, thoseO, h0, if_true, Int.toNat_natCast, hin]
        refine upL_congr (fun k hk => ?_)
        rw [Bool.eq_iff_iff]
        unfold thoseP
        rw [allN_iff, allN_iff]
        refine ⟨fun h j hj => ?_, fun h j hj => by simp [h j hj]⟩
        have := h j hj
        by_cases ejk : k = j
        · subst ejk
          cases hb : bt vs k k
          · have hb' : beatsV vs k k = false := hb
            simp [coversV, hb']
          · rw [bt_anti vs k k hb] at hb; cases hb
        · simpa [ejk] using this
      rw [he]
      exact hown.base hsz
end Go.Proofs.Ytccoamiblmobhaa
