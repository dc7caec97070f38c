/- Covering and transitivity. -/
import Derived.Test.YtagepfgncbgncaaPairs
namespace Go.Proofs.Ytagepfgncbgncaa
open Go.RowKit

def allN (n : Nat) (p : Nat → Bool) : Bool := (List.range n).all p
set_option maxRecDepth 100000 in
theorem allN_t {n : Nat} {p : Nat → Bool} (h : ∀ j, j < n → p j = true) : allN n p = true := by
  unfold allN; rw [List.all_eq_true]; intro x hx; exact h x (List.mem_range.1 hx)
set_option maxRecDepth 100000 in
theorem allN_f {n : Nat} {p : Nat → Bool} {k : Nat} (hk : k < n) (h : p k = false) : allN n p = false := by
  unfold allN; rw [List.all_eq_false]; exact ⟨k, List.mem_range.2 hk, by simp [h]⟩
set_option maxRecDepth 100000 in
theorem upto_succ {p : Nat → Bool} {k : Nat} (h : ∀ j, j < k → p j = true) (hk : p k = true) : ∀ j, j < k + 1 → p j = true := fun j hj => by
  rcases Nat.lt_succ_iff_lt_or_eq.1 hj with h1 | rfl
  · exact h j h1
  · exact hk

def coversP (vs : List Vt) (a b : Int) (z : Nat) : Bool := !(beatsV vs z a && !beatsV vs z b)
def coversV (n : Nat) (vs : List Vt) (a b : Int) : Bool := beatsV vs a b && allN n (coversP vs a b)

def coverO (sz : Int) (vs : List Vt) (x y : Int) : Bool := profOk sz vs && (hasB sz x && (hasB sz y && coversV sz.toNat vs x y))
set_option maxRecDepth 100000 in
theorem prof_nat {sz : Int} {vs : List Vt} (h : profOk sz vs = true) : ∃ n : Nat, sz = n ∧ 1 ≤ n ∧ n ≤ 5 := by
  have := prof_size h
  exact ⟨sz.toNat, by omega, by omega, by omega⟩

end Go.Proofs.Ytagepfgncbgncaa
