/- The winner by a rule, of the program and of the spec. -/
import Derived.Test.YtilcdnkkabmbfaaGreatCk25
namespace Go.Proofs.YtilcdnkkabmbfaaGreat
open Go.RowKit

set_option maxRecDepth 100000 in
set_option maxHeartbeats 1000000 in
theorem winb_impl (w : World) (rule sz : Int) (a : Option Addr) (c : Nat) (vs : List Vt) (hR : RdV w a vs) :
    Calls Tryz.prog 18 #[.int .i64 rule, .agg #[.int .i64 sz, .slice a vs.length c]] w fun e w' => e = .returned (.int .i64 (winB rule sz vs)) ∧ Ext w w' := by
  go_enter Tryz.func18, Tryz.ntmps18
  go_wp2_with fail
  refine (wins_impl _ rule sz a c vs (hR.ext (by repeat (first | exact Ext.refl _ | assumption | refine Ext.alloc ?_ _ | refine Ext.drew ?_ | refine Ext.trans ?_ (by assumption))))).mono ?_
  rintro e w1 ⟨v, rfl, hv, hw1⟩
  obtain ⟨av, cv, rfl, _, _, hRv, _⟩ := hv.val
  have hw : Ext w w1 := (by repeat (first | exact Ext.refl _ | assumption | refine Ext.alloc ?_ _ | refine Ext.drew ?_ | refine Ext.trans ?_ (by assumption)))
  have HB : Hid (winB rule sz vs = (winO rule sz vs).headD (-1)) := rfl
  generalize winO rule sz vs = xs at hv hRv HB ⊢
  clear hv hw1
  cases xs with
  | nil =>
    go_wp2
    go_ret
    exact ⟨ret_int HB.out.symm, hw⟩
  | cons x r =>
    obtain ⟨b, off, rfl, c0⟩ := hRv.at_ (k := 0) (x := x) rfl
    rw [Nat.add_zero] at c0
    obtain ⟨n, hn, hn1⟩ : ∃ n : Nat, (x :: r).length = n ∧ 0 < n := ⟨_, rfl, by simp⟩
    rw [hn]
    have t0 : ((n : Int) == 0) = false := by rw [beq_eq_false_iff_ne]; omega
    clear hRv hn
    go_wp2
    go_ret
    exact ⟨ret_int HB.out.symm, hw⟩

set_option maxRecDepth 100000 in
set_option maxHeartbeats 1000000 in
theorem winb_spec (w : World) (rule sz : Int) (a : Option Addr) (c : Nat) (vs : List Vt) (hR : RdV w a vs) :
    Calls Tryz.prog 72 #[.int .i64 rule, .agg #[.int .i64 sz, .slice a vs.length c]] w fun e w' => e = .returned (.int .i64 (winB rule sz vs)) ∧ Ext w w' := by
  go_enter Tryz.func72, Tryz.ntmps72
  go_wp2_with fail
  refine (wins_spec _ rule sz a c vs (hR.ext (by repeat (first | exact Ext.refl _ | assumption | refine Ext.alloc ?_ _ | refine Ext.drew ?_ | refine Ext.trans ?_ (by assumption))))).mono ?_
  rintro e w1 ⟨v, rfl, hv, hw1⟩
  obtain ⟨av, cv, rfl, _, _, hRv, _⟩ := hv.val
  have hw : Ext w w1 := (by repeat (first | exact Ext.refl _ | assumption | refine Ext.alloc ?_ _ | refine Ext.drew ?_ | refine Ext.trans ?_ (by assumption)))
  have HB : Hid (winB rule sz vs = (winO rule sz vs).headD (-1)) := rfl
  generalize winO rule sz vs = xs at hv hRv HB ⊢
  clear hv hw1
  cases xs with
  | nil =>
    go_wp2
    go_ret
    exact ⟨ret_int HB.out.symm, hw⟩
  | cons x r =>
    obtain ⟨b, off, rfl, c0⟩ := hRv.at_ (k := 0) (x := x) rfl
    rw [Nat.add_zero] at c0
    obtain ⟨n, hn, hn1⟩ : ∃ n : Nat, (x :: r).length = n ∧ 0 < n := ⟨_, rfl, by simp⟩
    rw [hn]
    have t0 : ((n : Int) == 0) = false := by rw [beq_eq_false_iff_ne]; omega
    clear hRv hn
    go_wp2
    go_ret
    exact ⟨ret_int HB.out.symm, hw⟩

end Go.Proofs.YtilcdnkkabmbfaaGreat
