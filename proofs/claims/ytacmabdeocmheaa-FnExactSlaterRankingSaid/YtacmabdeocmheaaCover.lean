/- Covering and transitivity. -/
import Derived.Test.YtacmabdeocmheaaPairs
namespace Go.Proofs.Ytacmabdeocmheaa
open Go.RowKit

def allN (n : Nat) (p : Nat → Bool) : Bool := (List.range n).all p
set_option maxRecDepth 100000 in
theorem allN_t {n : Nat} {p : Nat → Bool} (h : ∀ j, j < n → p j = true) : allN n p = true := by
  unfold allN; rw [List.all_eq_true]; intro x hx; exact h x (List.mem_range.1 hx)
set_option maxRecDepth 100000 in
theorem allN_f {n : Nat} {p : Nat → Bool} {k : Nat} (hk : k < n) (h : p k = false) : allN n p = false := by
  unfold allN; rw [List.all_eq_false]; exact ⟨k, List.mem_range.2 hk, by simp [h]⟩
set_option maxRecDepth 100000 in
theorem upto_succ {p : Nat → Bool} {k : Nat} (h : ∀ j, j < k → p j = true) (hk : p k = true) : ∀ j, j < k + 1 → p j = true := fun j hj => by
  rcases Nat.lt_succ_iff_lt_or_eq.1 hj with h1 | rfl
  · exact h j h1
  · exact hk

def coversP (vs : List Vt) (a b : Int) (z : Nat) : Bool := !(beatsV vs z a && !beatsV vs z b)
def coversV (n : Nat) (vs : List Vt) (a b : Int) : Bool := beatsV vs a b && allN n (coversP vs a b)

set_option maxRecDepth 100000 in
set_option maxHeartbeats 2000000 in
theorem covers_impl (w : World) (n : Nat) (a : Option Addr) (c : Nat) (vs : List Vt) (x y : Int) (hR : RdV w a vs) (hS : SmallV n vs) (hn : n ≤ 5) :
    Calls Try.prog 201 #[.agg #[.int .i64 n, .slice a vs.length c], .int .i64 x, .int .i64 y] w fun e w' => e = .returned (.bool (coversV n vs x y)) ∧ Ext w w' := by
  have q0 := new0 w (.int .i64 n) [.slice a vs.length c] 43
  have q1 := new1 w (.int .i64 n) (.slice a vs.length c) [] 43
  have HS := hide hS
  clear hS
  go_enter Try.func201, Try.ntmps201
  go_wp2_with fail
  have hw := Ext.new w (.cells #[.int .i64 n, .slice a vs.length c] 43)
  generalize w.alloc (.cells #[.int .i64 n, .slice a vs.length c] 43) = W0 at hw q0 q1 ⊢
  have hR0 := hR.ext hw
  go_loopw [7, 10] (fun _ i wr => ∃ k : Nat, k ≤ n ∧ i = .int .i64 k ∧ Hid (∀ j, j < k → coversP vs x y j = true) ∧ Ext W0 wr) (fun _ i _ => n - (intOf i).toNat)
  case atStart => exact ⟨0, Nat.zero_le _, rfl, fun j hj => absurd hj (by omega), Ext.refl _⟩
  case round =>
    obtain ⟨k, hk, rfl, hall, hwr⟩ := hrel
    have q0 := hwr.keep q0
    have q1 := hwr.keep q1
    by_cases hlt : k < n
    · cases h1 : beatsV vs k x <;> cases h2 : beatsV vs k y
      all_goals go_wp2_with (go_at_call 138; refine (beats_impl _ _ _ _ _ _ _ (hR0.ext (by repeat (first | exact Ext.refl _ | assumption | refine Ext.alloc ?_ _ | refine Ext.drew ?_ | refine Ext.trans ?_ (by assumption)))) HS.out).mono ?_; rintro e w1 ⟨rfl, hw1⟩; have q0 := Ext.keep (w' := w1) (by repeat (first | exact Ext.refl _ | assumption | refine Ext.alloc ?_ _ | refine Ext.drew ?_ | refine Ext.trans ?_ (by assumption))) q0; have q1 := Ext.keep (w' := w1) (by repeat (first | exact Ext.refl _ | assumption | refine Ext.alloc ?_ _ | refine Ext.drew ?_ | refine Ext.trans ?_ (by assumption))) q1)
      rotate_left 2
      · go_ret
        exact ⟨ret_bool (by simp [coversV, allN_f hlt (p := coversP vs x y) (by simp [coversP, h1, h2])]), (by repeat (first | exact Ext.refl _ | assumption | refine Ext.alloc ?_ _ | refine Ext.drew ?_ | refine Ext.trans ?_ (by assumption)))⟩
      all_goals exact ⟨⟨k + 1, by omega, by go_num, upto_succ hall.out (by simp [coversP, h1, h2]), (by repeat (first | exact Ext.refl _ | assumption | refine Ext.alloc ?_ _ | refine Ext.drew ?_ | refine Ext.trans ?_ (by assumption)))⟩, by simp [intOf]; omega⟩
    · go_wp2_with (go_at_call 138; refine (beats_impl _ _ _ _ _ _ _ (hR0.ext (by repeat (first | exact Ext.refl _ | assumption | refine Ext.alloc ?_ _ | refine Ext.drew ?_ | refine Ext.trans ?_ (by assumption)))) HS.out).mono ?_; rintro e w1 ⟨rfl, hw1⟩)
      go_ret
      exact ⟨ret_bool (by simp [coversV, allN_t (n := n) (p := coversP vs x y) (fun j hj => hall.out j (by omega))]), (by repeat (first | exact Ext.refl _ | assumption | refine Ext.alloc ?_ _ | refine Ext.drew ?_ | refine Ext.trans ?_ (by assumption)))⟩

def coverO (sz : Int) (vs : List Vt) (x y : Int) : Bool := profOk sz vs && (hasB sz x && (hasB sz y && coversV sz.toNat vs x y))
set_option maxRecDepth 100000 in
theorem prof_nat {sz : Int} {vs : List Vt} (h : profOk sz vs = true) : ∃ n : Nat, sz = n ∧ 1 ≤ n ∧ n ≤ 5 := by
  have := prof_size h
  exact ⟨sz.toNat, by omega, by omega, by omega⟩

set_option maxRecDepth 100000 in
set_option maxHeartbeats 1000000 in
theorem cover_impl (w : World) (sz : Int) (a : Option Addr) (c : Nat) (vs : List Vt) (x y : Int) (hR : RdV w a vs) :
    Calls Try.prog 82 #[.agg #[.int .i64 sz, .slice a vs.length c], .int .i64 x, .int .i64 y] w fun e w' => e = .returned (.bool (coverO sz vs x y)) ∧ Ext w w' := by
  have q0 := new0 w (.int .i64 sz) [.slice a vs.length c] 43
  have q1 := new1 w (.int .i64 sz) (.slice a vs.length c) [] 43
  cases h0 : profOk sz vs
  · go_enter Try.func82, Try.ntmps82
    go_wp2_with (go_at_call 63; refine (prof_impl _ _ _ _ _ (hR.ext (by repeat (first | exact Ext.refl _ | assumption | refine Ext.alloc ?_ _ | refine Ext.drew ?_ | refine Ext.trans ?_ (by assumption))))).mono ?_; rintro e w1 ⟨rfl, hw1⟩; have q0 := Ext.keep (w' := w1) (by repeat (first | exact Ext.refl _ | assumption | refine Ext.alloc ?_ _ | refine Ext.drew ?_ | refine Ext.trans ?_ (by assumption))) q0; have q1 := Ext.keep (w' := w1) (by repeat (first | exact Ext.refl _ | assumption | refine Ext.alloc ?_ _ | refine Ext.drew ?_ | refine Ext.trans ?_ (by assumption))) q1)
    go_ret
    exact ⟨ret_bool (by simp [coverO, h0]), (by repeat (first | exact Ext.refl _ | assumption | refine Ext.alloc ?_ _ | refine Ext.drew ?_ | refine Ext.trans ?_ (by assumption)))⟩
  obtain ⟨n, rfl, n1, n2⟩ := prof_nat h0
  have HS := hide (prof_small h0)
  cases h1 : hasB n x <;> cases h2 : hasB n y
  all_goals
    go_enter Try.func82, Try.ntmps82
    go_wp2_with (first | (go_at_call 63; refine (prof_impl _ _ _ _ _ (hR.ext (by repeat (first | exact Ext.refl _ | assumption | refine Ext.alloc ?_ _ | refine Ext.drew ?_ | refine Ext.trans ?_ (by assumption))))).mono ?_; rintro e w1 ⟨rfl, hw1⟩; have q0 := Ext.keep (w' := w1) (by repeat (first | exact Ext.refl _ | assumption | refine Ext.alloc ?_ _ | refine Ext.drew ?_ | refine Ext.trans ?_ (by assumption))) q0; have q1 := Ext.keep (w' := w1) (by repeat (first | exact Ext.refl _ | assumption | refine Ext.alloc ?_ _ | refine Ext.drew ?_ | refine Ext.trans ?_ (by assumption))) q1) | (go_at_call 126; refine (cand_impl _ _ _ _ _ _ (by omega) (by omega)).mono ?_; rintro e w1 ⟨rfl, hw1⟩; have q0 := Ext.keep (w' := w1) (by repeat (first | exact Ext.refl _ | assumption | refine Ext.alloc ?_ _ | refine Ext.drew ?_ | refine Ext.trans ?_ (by assumption))) q0; have q1 := Ext.keep (w' := w1) (by repeat (first | exact Ext.refl _ | assumption | refine Ext.alloc ?_ _ | refine Ext.drew ?_ | refine Ext.trans ?_ (by assumption))) q1) | (go_at_call 201; refine (covers_impl _ _ _ _ _ _ _ (hR.ext (by repeat (first | exact Ext.refl _ | assumption | refine Ext.alloc ?_ _ | refine Ext.drew ?_ | refine Ext.trans ?_ (by assumption)))) HS.out n2).mono ?_; rintro e w1 ⟨rfl, hw1⟩; have q0 := Ext.keep (w' := w1) (by repeat (first | exact Ext.refl _ | assumption | refine Ext.alloc ?_ _ | refine Ext.drew ?_ | refine Ext.trans ?_ (by assumption))) q0; have q1 := Ext.keep (w' := w1) (by repeat (first | exact Ext.refl _ | assumption | refine Ext.alloc ?_ _ | refine Ext.drew ?_ | refine Ext.trans ?_ (by assumption))) q1))
    go_ret
    exact ⟨ret_bool (by simp [coverO, h0, h1, h2]), (by repeat (first | exact Ext.refl _ | assumption | refine Ext.alloc ?_ _ | refine Ext.drew ?_ | refine Ext.trans ?_ (by assumption)))⟩

end Go.Proofs.Ytacmabdeocmheaa
