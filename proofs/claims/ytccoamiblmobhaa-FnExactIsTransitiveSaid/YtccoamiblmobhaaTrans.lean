/- Transitivity of the beats relation. -/
import Derived.Test.YtccoamiblmobhaaCover
namespace Go.Proofs.Ytccoamiblmobhaa
open Go.RowKit

def transC (vs : List Vt) (a b c : Nat) : Bool := !(beatsV vs a b && (beatsV vs b c && !beatsV vs a c))
def transB (n : Nat) (vs : List Vt) (a b : Nat) : Bool := allN n (transC vs a b)
def transA (n : Nat) (vs : List Vt) (a : Nat) : Bool := allN n (transB n vs a)
def transO (sz : Int) (vs : List Vt) : Bool := profOk sz vs && allN sz.toNat (transA sz.toNat vs)
theorem trans_no {n : Nat} {vs : List Vt} {a b c : Nat} (ha : a < n) (hb : b < n) (hc : c < n) (h : transC vs a b c = false) : allN n (transA n vs) = false :=
  allN_f ha (allN_f hb (allN_f hc h))

set_option maxHeartbeats 4000000 in
theorem trans_spec (w : World) (sz : Int) (a : Option Addr) (c : Nat) (vs : List Vt) (hR : RdV w a vs) :
    Calls Try.prog 24 #[.agg #[.int .i64 sz, .slice a vs.length c]] w fun e w' => e = .returned (.bool (transO sz vs)) ∧ Ext w w' := by
  have q0 := new0 w (.int .i64 sz) [.slice a vs.length c] 29
  have q1 := new1 w (.int .i64 sz) (.slice a vs.length c) [] 29
  cases h0 : profOk sz vs
  · go_enter Try.func24, Try.ntmps24
    go_wp2_with (go_at_call 50; refine (prof_spec _ _ _ _ _ (hR.ext (by repeat (first | exact Ext.refl _ | assumption | refine Ext.alloc ?_ _ | refine Ext.drew ?_ | refine Ext.trans ?_ (by assumption))))).mono ?_; rintro e w1 ⟨rfl, hw1⟩; have q0 := Ext.keep (w' := w1) (by repeat (first | exact Ext.refl _ | assumption | refine Ext.alloc ?_ _ | refine Ext.drew ?_ | refine Ext.trans ?_ (by assumption))) q0; have q1 := Ext.keep (w' := w1) (by repeat (first | exact Ext.refl _ | assumption | refine Ext.alloc ?_ _ | refine Ext.drew ?_ | refine Ext.trans ?_ (by assumption))) q1)
    go_ret
    exact ⟨ret_bool (by simp [transO, h0]), (by repeat (first | exact Ext.refl _ | assumption | refine Ext.alloc ?_ _ | refine Ext.drew ?_ | refine Ext.trans ?_ (by assumption)))⟩
  obtain ⟨n, rfl, n1, n2⟩ := prof_nat h0
  have HS := hide (prof_small h0)
  go_enter Try.func24, Try.ntmps24
  go_wp2_with (go_at_call 50; refine (prof_spec _ _ _ _ _ (hR.ext (by repeat (first | exact Ext.refl _ | assumption | refine Ext.alloc ?_ _ | refine Ext.drew ?_ | refine Ext.trans ?_ (by assumption))))).mono ?_; rintro e w1 ⟨rfl, hw1⟩; have q0 := Ext.keep (w' := w1) (by repeat (first | exact Ext.refl _ | assumption | refine Ext.alloc ?_ _ | refine Ext.drew ?_ | refine Ext.trans ?_ (by assumption))) q0; have q1 := Ext.keep (w' := w1) (by repeat (first | exact Ext.refl _ | assumption | refine Ext.alloc ?_ _ | refine Ext.drew ?_ | refine Ext.trans ?_ (by assumption))) q1)
  obtain ⟨W0, rfl⟩ : ∃ W0 : World, W0 = w1 := ⟨_, rfl⟩
  have hw : Ext w W0 := (by repeat (first | exact Ext.refl _ | assumption | refine Ext.alloc ?_ _ | refine Ext.drew ?_ | refine Ext.trans ?_ (by assumption)))
  have hR0 := hR.ext hw
  go_loopw [3, 4, 5] (fun i _ _ wr => ∃ k : Nat, k ≤ n ∧ i = .int .i64 k ∧ Hid (∀ j, j < k → transA n vs j = true) ∧ Ext W0 wr) (fun i _ _ _ => n - (intOf i).toNat)
  case atStart => exact ⟨0, Nat.zero_le _, rfl, fun j hj => absurd hj (by omega), Ext.refl _⟩
  case round =>
    obtain ⟨i, hi, rfl, hallA, hwr⟩ := hrel
    have q0' := hwr.keep q0
    by_cases hit : i < n
    · go_wp2
      go_loopw [4, 5] (fun m _ wr => ∃ k : Nat, k ≤ n ∧ m = .int .i64 k ∧ Hid (∀ j, j < k → transB n vs i j = true) ∧ Ext W0 wr) (fun m _ _ => n - (intOf m).toNat)
      case atStart => exact ⟨0, Nat.zero_le _, rfl, fun j hj => absurd hj (by omega), hwr⟩
      case round =>
        clear hwr q0'
        obtain ⟨j, hj, rfl, hallB, hwr⟩ := hrel
        have q0' := hwr.keep q0
        by_cases hjt : j < n
        · go_wp2
          go_loopw [5] (fun m wr => ∃ k : Nat, k ≤ n ∧ m = .int .i64 k ∧ Hid (∀ l, l < k → transC vs i j l = true) ∧ Ext W0 wr) (fun m _ => n - (intOf m).toNat)
          case atStart => exact ⟨0, Nat.zero_le _, rfl, fun j hj => absurd hj (by omega), hwr⟩
          case round =>
            clear hwr q0'
            obtain ⟨k, hk, rfl, hallC, hwr⟩ := hrel
            have q0' := hwr.keep q0
            have q1' := hwr.keep q1
            by_cases hlt : k < n
            · cases h1 : beatsV vs i j <;> cases h2 : beatsV vs j k <;> cases h3 : beatsV vs i k
              all_goals go_wp2_with (go_at_call 61; refine (beats_spec _ _ _ _ _ _ _ (hR0.ext (by repeat (first | exact Ext.refl _ | assumption | refine Ext.alloc ?_ _ | refine Ext.drew ?_ | refine Ext.trans ?_ (by assumption)))) HS.out).mono ?_; rintro e w1 ⟨rfl, hw1⟩; have q0' := Ext.keep (w' := w1) (by repeat (first | exact Ext.refl _ | assumption | refine Ext.alloc ?_ _ | refine Ext.drew ?_ | refine Ext.trans ?_ (by assumption))) q0'; have q1' := Ext.keep (w' := w1) (by repeat (first | exact Ext.refl _ | assumption | refine Ext.alloc ?_ _ | refine Ext.drew ?_ | refine Ext.trans ?_ (by assumption))) q1')
              rotate_left 6
              · go_ret
                exact ⟨ret_bool (by simp [transO, trans_no (vs := vs) hit hjt hlt (by simp [transC, h1, h2, h3])]), (by repeat (first | exact Ext.refl _ | assumption | refine Ext.alloc ?_ _ | refine Ext.drew ?_ | refine Ext.trans ?_ (by assumption)))⟩
              all_goals exact ⟨⟨k + 1, by omega, by go_num, upto_succ hallC.out (by simp [transC, h1, h2, h3]), (by repeat (first | exact Ext.refl _ | assumption | refine Ext.alloc ?_ _ | refine Ext.drew ?_ | refine Ext.trans ?_ (by assumption)))⟩, by simp [intOf]; omega⟩
            · go_wp2
              exact ⟨⟨j + 1, by omega, by go_num, upto_succ hallB.out (allN_t fun l hl => hallC.out l (by omega)), (by repeat (first | exact Ext.refl _ | assumption | refine Ext.alloc ?_ _ | refine Ext.drew ?_ | refine Ext.trans ?_ (by assumption)))⟩, by simp [intOf]; omega⟩
        · go_wp2
          exact ⟨⟨i + 1, by omega, by go_num, upto_succ hallA.out (allN_t fun l hl => hallB.out l (by omega)), (by repeat (first | exact Ext.refl _ | assumption | refine Ext.alloc ?_ _ | refine Ext.drew ?_ | refine Ext.trans ?_ (by assumption)))⟩, by simp [intOf]; omega⟩
    · go_wp2
      go_ret
      exact ⟨ret_bool (by simp [transO, h0, allN_t (n := n) (p := transA n vs) (fun j hj => hallA.out j (by omega))]), (by repeat (first | exact Ext.refl _ | assumption | refine Ext.alloc ?_ _ | refine Ext.drew ?_ | refine Ext.trans ?_ (by assumption)))⟩

set_option maxHeartbeats 4000000 in
theorem trans_impl (w : World) (sz : Int) (a : Option Addr) (c : Nat) (vs : List Vt) (hR : RdV w a vs) :
    Calls Try.prog 25 #[.agg #[.int .i64 sz, .slice a vs.length c]] w fun e w' => e = .returned (.bool (transO sz vs)) ∧ Ext w w' := by
  have q0 := new0 w (.int .i64 sz) [.slice a vs.length c] 29
  have q1 := new1 w (.int .i64 sz) (.slice a vs.length c) [] 29
  cases h0 : profOk sz vs
  · go_enter Try.func25, Try.ntmps25
    go_wp2_with (go_at_call 54; refine (prof_impl _ _ _ _ _ (hR.ext (by repeat (first | exact Ext.refl _ | assumption | refine Ext.alloc ?_ _ | refine Ext.drew ?_ | refine Ext.trans ?_ (by assumption))))).mono ?_; rintro e w1 ⟨rfl, hw1⟩; have q0 := Ext.keep (w' := w1) (by repeat (first | exact Ext.refl _ | assumption | refine Ext.alloc ?_ _ | refine Ext.drew ?_ | refine Ext.trans ?_ (by assumption))) q0; have q1 := Ext.keep (w' := w1) (by repeat (first | exact Ext.refl _ | assumption | refine Ext.alloc ?_ _ | refine Ext.drew ?_ | refine Ext.trans ?_ (by assumption))) q1)
    go_ret
    exact ⟨ret_bool (by simp [transO, h0]), (by repeat (first | exact Ext.refl _ | assumption | refine Ext.alloc ?_ _ | refine Ext.drew ?_ | refine Ext.trans ?_ (by assumption)))⟩
  obtain ⟨n, rfl, n1, n2⟩ := prof_nat h0
  have HS := hide (prof_small h0)
  go_enter Try.func25, Try.ntmps25
  go_wp2_with (go_at_call 54; refine (prof_impl _ _ _ _ _ (hR.ext (by repeat (first | exact Ext.refl _ | assumption | refine Ext.alloc ?_ _ | refine Ext.drew ?_ | refine Ext.trans ?_ (by assumption))))).mono ?_; rintro e w1 ⟨rfl, hw1⟩; have q0 := Ext.keep (w' := w1) (by repeat (first | exact Ext.refl _ | assumption | refine Ext.alloc ?_ _ | refine Ext.drew ?_ | refine Ext.trans ?_ (by assumption))) q0; have q1 := Ext.keep (w' := w1) (by repeat (first | exact Ext.refl _ | assumption | refine Ext.alloc ?_ _ | refine Ext.drew ?_ | refine Ext.trans ?_ (by assumption))) q1)
  obtain ⟨W0, rfl⟩ : ∃ W0 : World, W0 = w1 := ⟨_, rfl⟩
  have hw : Ext w W0 := (by repeat (first | exact Ext.refl _ | assumption | refine Ext.alloc ?_ _ | refine Ext.drew ?_ | refine Ext.trans ?_ (by assumption)))
  have hR0 := hR.ext hw
  go_loopw [3, 4, 5, 11, 15, 16, 20, 21] (fun _ _ _ i _ _ _ _ wr => ∃ k : Nat, k ≤ n ∧ i = .int .i64 k ∧ Hid (∀ j, j < k → transA n vs j = true) ∧ Ext W0 wr) (fun _ _ _ i _ _ _ _ _ => n - (intOf i).toNat)
  case atStart => exact ⟨0, Nat.zero_le _, rfl, fun j hj => absurd hj (by omega), Ext.refl _⟩
  case round =>
    obtain ⟨i, hi, rfl, hallA, hwr⟩ := hrel
    have q0' := hwr.keep q0
    by_cases hit : i < n
    · go_wp2
      go_loopw [4, 5, 16, 20, 21] (fun _ _ m _ _ wr => ∃ k : Nat, k ≤ n ∧ m = .int .i64 k ∧ Hid (∀ j, j < k → transB n vs i j = true) ∧ Ext W0 wr) (fun _ _ m _ _ _ => n - (intOf m).toNat)
      case atStart => exact ⟨0, Nat.zero_le _, rfl, fun j hj => absurd hj (by omega), hwr⟩
      case round =>
        clear hwr q0'
        obtain ⟨j, hj, rfl, hallB, hwr⟩ := hrel
        have q0' := hwr.keep q0
        by_cases hjt : j < n
        · go_wp2
          go_loopw [5, 21] (fun _ m wr => ∃ k : Nat, k ≤ n ∧ m = .int .i64 k ∧ Hid (∀ l, l < k → transC vs i j l = true) ∧ Ext W0 wr) (fun _ m _ => n - (intOf m).toNat)
          case atStart => exact ⟨0, Nat.zero_le _, rfl, fun j hj => absurd hj (by omega), hwr⟩
          case round =>
            clear hwr q0'
            obtain ⟨k, hk, rfl, hallC, hwr⟩ := hrel
            have q0' := hwr.keep q0
            have q1' := hwr.keep q1
            by_cases hlt : k < n
            · cases h1 : beatsV vs i j <;> cases h2 : beatsV vs j k <;> cases h3 : beatsV vs i k
              all_goals go_wp2_with (go_at_call 62; refine (beats_impl _ _ _ _ _ _ _ (hR0.ext (by repeat (first | exact Ext.refl _ | assumption | refine Ext.alloc ?_ _ | refine Ext.drew ?_ | refine Ext.trans ?_ (by assumption)))) HS.out).mono ?_; rintro e w1 ⟨rfl, hw1⟩; have q0' := Ext.keep (w' := w1) (by repeat (first | exact Ext.refl _ | assumption | refine Ext.alloc ?_ _ | refine Ext.drew ?_ | refine Ext.trans ?_ (by assumption))) q0'; have q1' := Ext.keep (w' := w1) (by repeat (first | exact Ext.refl _ | assumption | refine Ext.alloc ?_ _ | refine Ext.drew ?_ | refine Ext.trans ?_ (by assumption))) q1')
              rotate_left 6
              · go_ret
                exact ⟨ret_bool (by simp [transO, trans_no (vs := vs) hit hjt hlt (by simp [transC, h1, h2, h3])]), (by repeat (first | exact Ext.refl _ | assumption | refine Ext.alloc ?_ _ | refine Ext.drew ?_ | refine Ext.trans ?_ (by assumption)))⟩
              all_goals exact ⟨⟨k + 1, by omega, by go_num, upto_succ hallC.out (by simp [transC, h1, h2, h3]), (by repeat (first | exact Ext.refl _ | assumption | refine Ext.alloc ?_ _ | refine Ext.drew ?_ | refine Ext.trans ?_ (by assumption)))⟩, by simp [intOf]; omega⟩
            · go_wp2
              exact ⟨⟨j + 1, by omega, by go_num, upto_succ hallB.out (allN_t fun l hl => hallC.out l (by omega)), (by repeat (first | exact Ext.refl _ | assumption | refine Ext.alloc ?_ _ | refine Ext.drew ?_ | refine Ext.trans ?_ (by assumption)))⟩, by simp [intOf]; omega⟩
        · go_wp2
          exact ⟨⟨i + 1, by omega, by go_num, upto_succ hallA.out (allN_t fun l hl => hallB.out l (by omega)), (by repeat (first | exact Ext.refl _ | assumption | refine Ext.alloc ?_ _ | refine Ext.drew ?_ | refine Ext.trans ?_ (by assumption)))⟩, by simp [intOf]; omega⟩
    · go_wp2
      go_ret
      exact ⟨ret_bool (by simp [transO, h0, allN_t (n := n) (p := transA n vs) (fun j hj => hallA.out j (by omega))]), (by repeat (first | exact Ext.refl _ | assumption | refine Ext.alloc ?_ _ | refine Ext.drew ?_ | refine Ext.trans ?_ (by assumption)))⟩
end Go.Proofs.Ytccoamiblmobhaa
