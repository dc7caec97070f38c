/- A candidate with a majority of first places. -/
import Derived.Test.YtagepfgncbgncaaSco
import Derived.Test.YtagepfgncbgncaaCount
namespace Go.Proofs.Ytagepfgncbgncaa
open Go.RowKit

def fstV (vs : List Vt) (a : Nat) : Int := plcV vs a 0
set_option maxRecDepth 100000 in
theorem fstV_bd {n : Int} {vs : List Vt} (hS : SmallV n vs) (a : Nat) : 0 ≤ fstV vs a ∧ fstV vs a ≤ 24000 := sumV_bd' hS

def majO (sz : Int) (vs : List Vt) : Int := if profOk sz vs then findI (fun x => decide (allV vs < 2 * x)) (rowL sz.toNat (fstV vs)) else -1

def pluW (j : Nat) : Int := if j = 0 then 1 else 0
set_option maxRecDepth 100000 in
theorem pluG : GoodW pluW := pluF
set_option maxRecDepth 100000 in
set_option maxHeartbeats 1000000 in
theorem pluOne (w : World) (j : Nat) (hj : j ≤ 5) : Calls Try.prog 148 #[.int .i64 j] w fun e w' => e = .returned (.int .i64 (pluW j)) ∧ Ext w w' := by
  by_cases h0 : j = 0
  · subst h0
    go_enter Try.func148, Try.ntmps148
    go_wp2
    go_ret
    exact ⟨rfl, Ext.refl _⟩
  · go_enter Try.func148, Try.ntmps148
    go_wp2
    go_ret
    exact ⟨ret_int (by unfold pluW; rw [if_neg h0] <;> first | omega | (split <;> omega)), Ext.refl _⟩

set_option maxRecDepth 100000 in
set_option maxHeartbeats 1000000 in
theorem weightsOf_no (w : World) (m : Int) (K : Value) (h : inR m 1 5 = false) :
    Calls Try.prog 147 #[.int .i64 m, K] w fun e w' => e = .returned (.slice none 0 0) ∧ Ext w w' := by
  go_enter Try.func147, Try.ntmps147
  go_wp2_with (go_at_call 112; refine (in_impl _ _ _ _).mono ?_; rintro e w1 ⟨rfl, hw1⟩)
  go_ret
  exact ⟨rfl, (by repeat (first | exact Ext.refl _ | assumption | refine Ext.alloc ?_ _ | refine Ext.drew ?_ | refine Ext.trans ?_ (by assumption)))⟩

set_option maxRecDepth 100000 in
set_option maxHeartbeats 1000000 in
theorem plu_impl (w : World) (m : Int) :
    Calls Try.prog 90 #[.int .i64 m] w fun e w' => ∃ v, e = .returned v ∧ (∀ n : Nat, m = n → inR m 1 5 = true → OwnI w' w.heap.size v (rowL n pluW)) ∧ Ext w w' := by
  cases h : inR m 1 5
  · go_enter Try.func90, Try.ntmps90
    go_wp2_with fail
    refine (weightsOf_no _ _ _ h).mono ?_
    rintro e w1 ⟨rfl, hw1⟩
    go_wp2
    go_ret
    exact ⟨_, rfl, (fun n _ h => by cases h), (by repeat (first | exact Ext.refl _ | assumption | refine Ext.alloc ?_ _ | refine Ext.drew ?_ | refine Ext.trans ?_ (by assumption)))⟩
  · obtain ⟨h1, h2⟩ := inR_iff.1 h
    obtain ⟨n, rfl⟩ : ∃ n : Nat, m = n := ⟨m.toNat, by omega⟩
    go_enter Try.func90, Try.ntmps90
    go_wp2_with fail
    refine (weightsOf_impl 148 #[] pluW _ n (by omega) (by omega) Try.call148 (fun j w' hj _ => pluOne w' j (by omega))).mono ?_
    rintro e w1 ⟨v, rfl, hv, hw1⟩
    go_wp2
    go_ret
    refine ⟨_, rfl, fun k hk _ => ?_, (by repeat (first | exact Ext.refl _ | assumption | refine Ext.alloc ?_ _ | refine Ext.drew ?_ | refine Ext.trans ?_ (by assumption)))⟩
    have : n = k := by omega
    subst this
    exact hv

set_option maxRecDepth 100000 in
set_option maxHeartbeats 1000000 in
theorem sco_no (w : World) (sz : Int) (a : Option Addr) (c : Nat) (vs : List Vt) (u : Value) (hR : RdV w a vs) (h0 : profOk sz vs = false) :
    Calls Try.prog 144 #[.agg #[.int .i64 sz, .slice a vs.length c], u] w fun e w' => e = .returned (.slice none 0 0) ∧ Ext w w' := by
  have q0 := new0 w (.int .i64 sz) [.slice a vs.length c] 43
  have q1 := new1 w (.int .i64 sz) (.slice a vs.length c) [] 43
  go_enter Try.func144, Try.ntmps144
  go_wp2_with (go_at_call 78; refine (prof_impl _ _ _ _ _ (hR.ext (by repeat (first | exact Ext.refl _ | assumption | refine Ext.alloc ?_ _ | refine Ext.drew ?_ | refine Ext.trans ?_ (by assumption))))).mono ?_; rintro e w1 ⟨rfl, hw1⟩; have q0 := Ext.keep (w' := w1) (by repeat (first | exact Ext.refl _ | assumption | refine Ext.alloc ?_ _ | refine Ext.drew ?_ | refine Ext.trans ?_ (by assumption))) q0; have q1 := Ext.keep (w' := w1) (by repeat (first | exact Ext.refl _ | assumption | refine Ext.alloc ?_ _ | refine Ext.drew ?_ | refine Ext.trans ?_ (by assumption))) q1)
  go_ret
  exact ⟨rfl, (by repeat (first | exact Ext.refl _ | assumption | refine Ext.alloc ?_ _ | refine Ext.drew ?_ | refine Ext.trans ?_ (by assumption)))⟩

end Go.Proofs.Ytagepfgncbgncaa
