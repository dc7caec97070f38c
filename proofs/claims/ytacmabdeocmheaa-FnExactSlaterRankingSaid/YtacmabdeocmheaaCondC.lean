/- Condorcet winner and loser, the unbeaten: both sides. -/
import Derived.Test.YtacmabdeocmheaaCond
namespace Go.Proofs.Ytacmabdeocmheaa
open Go.RowKit

def loserO (sz : Int) (vs : List Vt) : Int := onlyL (thoseO sz vs (fun i j => bt vs j i))
def winnerO (sz : Int) (vs : List Vt) : Int := onlyL (thoseO sz vs (bt vs))
set_option maxRecDepth 100000 in
theorem smallL (n : Nat) (vs : List Vt) : (upsL n vs).length = n ∧ (dnsL n vs).length = n := ⟨rowL_len _ _, rowL_len _ _⟩

set_option maxRecDepth 100000 in
theorem small_up {n : Nat} (h : n ≤ 5) (vs : List Vt) : (upsL n vs).length ≤ 2000000 := by have := smallL n vs; omega
set_option maxRecDepth 100000 in
theorem small_dn {n : Nat} (h : n ≤ 5) (vs : List Vt) : (dnsL n vs).length ≤ 2000000 := by have := smallL n vs; omega

set_option maxRecDepth 100000 in
set_option maxHeartbeats 1000000 in
theorem winF (w : World) (n : Nat) (g : Nat) (a : Option Addr) (c : Nat) (vs : List Vt) (i j : Nat) (h0 : w.cell? ⟨g, 0, none⟩ = some (.int .i64 n)) (h1 : w.cell? ⟨g, 1, none⟩ = some (.slice a vs.length c)) (hR : RdV w a vs) (hS : SmallV n vs) :
    Calls Try.prog 196 #[.int .i64 i, .int .i64 j, .pointer (some ⟨g, 0, none⟩)] w fun e w' => e = .returned (.bool (bt vs i j)) ∧ Ext w w' := by
  have HS := hide hS
  clear hS
  go_enter Try.func196, Try.ntmps196
  go_wp2_with (go_at_call 138; refine (beats_impl _ _ _ _ _ _ _ hR HS.out).mono ?_; rintro e w1 ⟨rfl, hw1⟩)
  go_ret
  exact ⟨rfl, hw1⟩
set_option maxRecDepth 100000 in
set_option maxHeartbeats 1000000 in
theorem loseF (w : World) (n : Nat) (g : Nat) (a : Option Addr) (c : Nat) (vs : List Vt) (i j : Nat) (h0 : w.cell? ⟨g, 0, none⟩ = some (.int .i64 n)) (h1 : w.cell? ⟨g, 1, none⟩ = some (.slice a vs.length c)) (hR : RdV w a vs) (hS : SmallV n vs) :
    Calls Try.prog 193 #[.int .i64 i, .int .i64 j, .pointer (some ⟨g, 0, none⟩)] w fun e w' => e = .returned (.bool (bt vs j i)) ∧ Ext w w' := by
  have HS := hide hS
  clear hS
  go_enter Try.func193, Try.ntmps193
  go_wp2_with (go_at_call 138; refine (beats_impl _ _ _ _ _ _ _ hR HS.out).mono ?_; rintro e w1 ⟨rfl, hw1⟩)
  go_ret
  exact ⟨rfl, hw1⟩
set_option maxRecDepth 100000 in
set_option maxHeartbeats 1000000 in
theorem unbF (w : World) (n : Nat) (g : Nat) (a : Option Addr) (c : Nat) (vs : List Vt) (i j : Nat) (h0 : w.cell? ⟨g, 0, none⟩ = some (.int .i64 n)) (h1 : w.cell? ⟨g, 1, none⟩ = some (.slice a vs.length c)) (hR : RdV w a vs) (hS : SmallV n vs) :
    Calls Try.prog 203 #[.int .i64 i, .int .i64 j, .pointer (some ⟨g, 0, none⟩)] w fun e w' => e = .returned (.bool (!bt vs j i)) ∧ Ext w w' := by
  have HS := hide hS
  clear hS
  go_enter Try.func203, Try.ntmps203
  go_wp2_with (go_at_call 138; refine (beats_impl _ _ _ _ _ _ _ hR HS.out).mono ?_; rintro e w1 ⟨rfl, hw1⟩)
  go_ret
  exact ⟨rfl, hw1⟩
set_option maxRecDepth 100000 in
set_option maxHeartbeats 1000000 in
theorem uncF (w : World) (n : Nat) (g : Nat) (a : Option Addr) (c : Nat) (vs : List Vt) (i j : Nat) (hn : n ≤ 5) (h0 : w.cell? ⟨g, 0, none⟩ = some (.int .i64 n)) (h1 : w.cell? ⟨g, 1, none⟩ = some (.slice a vs.length c)) (hR : RdV w a vs) (hS : SmallV n vs) :
    Calls Try.prog 200 #[.int .i64 i, .int .i64 j, .pointer (some ⟨g, 0, none⟩)] w fun e w' => e = .returned (.bool (!coversV n vs j i)) ∧ Ext w w' := by
  have HS := hide hS
  clear hS
  go_enter Try.func200, Try.ntmps200
  go_wp2_with (go_at_call 201; refine (covers_impl _ _ _ _ _ _ _ hR HS.out hn).mono ?_; rintro e w1 ⟨rfl, hw1⟩)
  go_ret
  exact ⟨rfl, hw1⟩

set_option maxRecDepth 100000 in
set_option maxHeartbeats 1000000 in
theorem winner_impl (w : World) (sz : Int) (a : Option Addr) (c : Nat) (vs : List Vt) (hR : RdV w a vs) :
    Calls Try.prog 77 #[.agg #[.int .i64 sz, .slice a vs.length c]] w fun e w' => e = .returned (.int .i64 (winnerO sz vs)) ∧ Ext w w' := by
  go_enter Try.func77, Try.ntmps77
  go_wp2_with fail
  refine (only_impl 196 _ (bt vs) _ sz a c vs (hR.ext (by repeat (first | exact Ext.refl _ | assumption | refine Ext.alloc ?_ _ | refine Ext.drew ?_ | refine Ext.trans ?_ (by assumption)))) Try.call196 ?_).mono ?_
  · rintro n i j w' rfl hn hS hi hj hw'
    exact winF w' n _ a c vs i j (hw'.keep (new0 w _ _ _)) (hw'.keep (new1 w _ _ _ _)) (hR.ext (Ext.trans (by repeat (first | exact Ext.refl _ | assumption | refine Ext.alloc ?_ _ | refine Ext.drew ?_ | refine Ext.trans ?_ (by assumption))) hw')) hS
  rintro e w1 ⟨rfl, hw1⟩
  go_wp2
  go_ret
  exact ⟨rfl, (by repeat (first | exact Ext.refl _ | assumption | refine Ext.alloc ?_ _ | refine Ext.drew ?_ | refine Ext.trans ?_ (by assumption)))⟩
set_option maxRecDepth 100000 in
set_option maxHeartbeats 1000000 in
theorem loser_impl (w : World) (sz : Int) (a : Option Addr) (c : Nat) (vs : List Vt) (hR : RdV w a vs) :
    Calls Try.prog 72 #[.agg #[.int .i64 sz, .slice a vs.length c]] w fun e w' => e = .returned (.int .i64 (loserO sz vs)) ∧ Ext w w' := by
  go_enter Try.func72, Try.ntmps72
  go_wp2_with fail
  refine (only_impl 193 _ (fun i j => bt vs j i) _ sz a c vs (hR.ext (by repeat (first | exact Ext.refl _ | assumption | refine Ext.alloc ?_ _ | refine Ext.drew ?_ | refine Ext.trans ?_ (by assumption)))) Try.call193 ?_).mono ?_
  · rintro n i j w' rfl hn hS hi hj hw'
    exact loseF w' n _ a c vs i j (hw'.keep (new0 w _ _ _)) (hw'.keep (new1 w _ _ _ _)) (hR.ext (Ext.trans (by repeat (first | exact Ext.refl _ | assumption | refine Ext.alloc ?_ _ | refine Ext.drew ?_ | refine Ext.trans ?_ (by assumption))) hw')) hS
  rintro e w1 ⟨rfl, hw1⟩
  go_wp2
  go_ret
  exact ⟨rfl, (by repeat (first | exact Ext.refl _ | assumption | refine Ext.alloc ?_ _ | refine Ext.drew ?_ | refine Ext.trans ?_ (by assumption)))⟩

def unbO (sz : Int) (vs : List Vt) : List Int := thoseO sz vs (fun i j => !bt vs j i)
def uncO (sz : Int) (vs : List Vt) : List Int := thoseO sz vs (fun i j => !coversV sz.toNat vs j i)
set_option maxRecDepth 100000 in
theorem thoseO_len (sz : Int) (vs : List Vt) (p : Nat → Nat → Bool) : (thoseO sz vs p).length ≤ 5 := by
  unfold thoseO
  cases h0 : profOk sz vs
  · simp
  · obtain ⟨n, rfl, n1, n2⟩ := prof_nat h0
    have := upL_len n (thoseP n p)
    simp; omega
set_option maxRecDepth 100000 in
theorem unbO_len (sz : Int) (vs : List Vt) : (unbO sz vs).length ≤ 5 := thoseO_len _ _ _
set_option maxRecDepth 100000 in
theorem uncO_len (sz : Int) (vs : List Vt) : (uncO sz vs).length ≤ 5 := thoseO_len _ _ _
set_option maxRecDepth 100000 in
set_option maxHeartbeats 1000000 in
theorem unb_impl (w : World) (sz : Int) (a : Option Addr) (c : Nat) (vs : List Vt) (hR : RdV w a vs) :
    Calls Try.prog 83 #[.agg #[.int .i64 sz, .slice a vs.length c]] w fun e w' => ∃ v, e = .returned v ∧ OwnI w' w.heap.size v (unbO sz vs) ∧ Ext w w' := by
  go_enter Try.func83, Try.ntmps83
  go_wp2_with fail
  refine (those_impl 203 _ (fun i j => !bt vs j i) _ sz a c vs (hR.ext (by repeat (first | exact Ext.refl _ | assumption | refine Ext.alloc ?_ _ | refine Ext.drew ?_ | refine Ext.trans ?_ (by assumption)))) Try.call203 ?_).mono ?_
  · rintro n i j w' rfl hn hS hi hj hw'
    exact unbF w' n _ a c vs i j (hw'.keep (new0 w _ _ _)) (hw'.keep (new1 w _ _ _ _)) (hR.ext (Ext.trans (by repeat (first | exact Ext.refl _ | assumption | refine Ext.alloc ?_ _ | refine Ext.drew ?_ | refine Ext.trans ?_ (by assumption))) hw')) hS
  rintro e w1 ⟨v, rfl, hv, hw1⟩
  go_wp2
  go_ret
  exact ⟨_, rfl, hv.base (by simp), (by repeat (first | exact Ext.refl _ | assumption | refine Ext.alloc ?_ _ | refine Ext.drew ?_ | refine Ext.trans ?_ (by assumption)))⟩
set_option maxRecDepth 100000 in
set_option maxHeartbeats 1000000 in
theorem unc_impl (w : World) (sz : Int) (a : Option Addr) (c : Nat) (vs : List Vt) (hR : RdV w a vs) :
    Calls Try.prog 79 #[.agg #[.int .i64 sz, .slice a vs.length c]] w fun e w' => ∃ v, e = .returned v ∧ OwnI w' w.heap.size v (uncO sz vs) ∧ Ext w w' := by
  go_enter Try.func79, Try.ntmps79
  go_wp2_with fail
  refine (those_impl 200 _ (fun i j => !coversV sz.toNat vs j i) _ sz a c vs (hR.ext (by repeat (first | exact Ext.refl _ | assumption | refine Ext.alloc ?_ _ | refine Ext.drew ?_ | refine Ext.trans ?_ (by assumption)))) Try.call200 ?_).mono ?_
  · rintro n i j w' rfl hn hS hi hj hw'
    exact uncF w' n _ a c vs i j hn (hw'.keep (new0 w _ _ _)) (hw'.keep (new1 w _ _ _ _)) (hR.ext (Ext.trans (by repeat (first | exact Ext.refl _ | assumption | refine Ext.alloc ?_ _ | refine Ext.drew ?_ | refine Ext.trans ?_ (by assumption))) hw')) hS
  rintro e w1 ⟨v, rfl, hv, hw1⟩
  go_wp2
  go_ret
  exact ⟨_, rfl, hv.base (by simp), (by repeat (first | exact Ext.refl _ | assumption | refine Ext.alloc ?_ _ | refine Ext.drew ?_ | refine Ext.trans ?_ (by assumption)))⟩

end Go.Proofs.Ytacmabdeocmheaa
