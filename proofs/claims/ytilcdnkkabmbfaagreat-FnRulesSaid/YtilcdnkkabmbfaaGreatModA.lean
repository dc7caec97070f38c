/- Rankings that are changed (plain law). -/
import Derived.Test.YtilcdnkkabmbfaaGreatCk18
namespace Go.Proofs.YtilcdnkkabmbfaaGreat
open Go.RowKit

set_option maxRecDepth 100000 in
theorem rk_perm_ok {m : Int} {xs ys : List Int} (h : ys.Perm xs) (hr : rkOk m xs = true) : rkOk m ys = true := by
  have hl := h.length_eq
  unfold rkOk at hr ⊢
  simp only [Bool.and_eq_true, decide_eq_true_eq, List.all_eq_true] at hr ⊢
  obtain ⟨h1, h2, h3, h4⟩ := hr
  exact ⟨h1, by omega, fun x hx => h3 x (h.mem_iff.1 hx), h.nodup_iff.2 h4⟩
/-- One place up. -/
def raiseL (xs : List Int) (i : Nat) : List Int := (xs.set (i - 1) (xs.getD i 0)).set i (xs.getD (i - 1) 0)
set_option maxRecDepth 100000 in
theorem raise_len (xs : List Int) (i : Nat) : (raiseL xs i).length = xs.length := by unfold raiseL; rw [List.length_set, List.length_set]
set_option maxRecDepth 100000 in
theorem raise_ok {m : Int} {xs : List Int} {i : Nat} (hr : rkOk m xs = true) (hi : i < xs.length) : rkOk m (raiseL xs i) = true := by
  refine rk_perm_ok ?_ hr
  unfold raiseL
  have h1 : xs.getD i 0 = xs[i] := by simp [List.getD, List.getElem?_eq_getElem hi]
  have hi2 : i - 1 < xs.length := by omega
  have h2 : xs.getD (i - 1) 0 = xs[i - 1] := by simp [List.getD, List.getElem?_eq_getElem hi2]
  rw [h1, h2]
  exact List.set_set_perm hi2 hi
set_option maxRecDepth 100000 in
theorem raise_at {xs : List Int} {i : Nat} (h1 : 1 ≤ i) (hi : i < xs.length) (j : Nat) (hj : j < xs.length) : (raiseL xs i).getD j 0 = if j = i then xs.getD (i - 1) 0 else if j = i - 1 then xs.getD i 0 else xs.getD j 0 := by
  unfold raiseL
  rw [List.getD_eq_getElem?_getD, List.getElem?_set]
  by_cases e : j = i
  · subst e
    rw [if_pos rfl, if_pos rfl, List.length_set, if_pos hj]; rfl
  · rw [if_neg (fun h => e h.symm), if_neg e, List.getElem?_set]
    by_cases e2 : j = i - 1
    · rw [if_pos e2.symm, if_pos e2, if_pos (by omega)]; rfl
    · rw [if_neg (fun h => e2 h.symm), if_neg e2, List.getD_eq_getElem?_getD]
/-- A number without a candidate. -/
def dropV (a x : Int) : List Int := if x < a then [x] else if a < x then [x - 1] else []
def dropL (a : Int) (xs : List Int) : List Int := xs.flatMap (dropV a)
set_option maxRecDepth 100000 in
theorem dropL_at {a : Int} {xs : List Int} {k : Nat} {x : Int} (hx : xs[k]? = some x) : dropL a (xs.take (k + 1)) = dropL a (xs.take k) ++ dropV a x := by rw [take_at hx]; simp [dropL]
set_option maxRecDepth 100000 in
theorem dropL_len (a : Int) : ∀ xs : List Int, (dropL a xs).length ≤ xs.length
  | [] => by simp [dropL]
  | x :: xs => by
    have ih := dropL_len a xs
    have h1 : (dropV a x).length ≤ 1 := by
      unfold dropV
      split
      · simp
      · split <;> simp
    have e : dropL a (x :: xs) = dropV a x ++ dropL a xs := by unfold dropL; rw [List.flatMap_cons]
    rw [e, List.length_append, List.length_cons]
    omega
def downV (a b : Int) : Int := if a < b then b - 1 else b
set_option maxRecDepth 100000 in
theorem dropL_filter (a : Int) : ∀ xs : List Int, dropL a xs = (xs.filter (fun y => !(y == a))).map (downV a)
  | [] => rfl
  | x :: xs => by
    have ih := dropL_filter a xs
    unfold dropL at ih ⊢
    rw [List.flatMap_cons, ih, List.filter_cons]
    unfold dropV downV
    rcases Int.lt_trichotomy x a with h | h | h
    · have hb : (x == a) = false := by rw [beq_eq_false_iff_ne]; omega
      rw [if_pos h, hb]
      simp; omega
    · subst h
      simp
    · have hb : (x == a) = false := by rw [beq_eq_false_iff_ne]; omega
      rw [if_neg (by omega), if_pos h, hb]
      simp; omega
set_option maxRecDepth 100000 in
theorem dropL_erase {a : Int} {xs : List Int} {i : Nat} (hd : xs.Nodup) (hi : xs[i]? = some a) : dropL a xs = (xs.eraseIdx i).map (downV a) := by rw [dropL_filter, erase_filter hd hi]
/-- Votes of which each ranking is changed. -/
def mapV (F : List Int → List Int) (vs : List Vt) : List Vt := vs.map (fun x => (F x.1, x.2))
set_option maxRecDepth 100000 in
theorem mapV_len (F : List Int → List Int) (vs : List Vt) : (mapV F vs).length = vs.length := by unfold mapV; rw [List.length_map]
/-- The first number below n of which something holds, or -1. -/
def firstN (n : Nat) (q : Nat → Bool) : Int := match (List.range n).find? q with | some k => (k : Int) | none => -1
set_option maxRecDepth 100000 in
theorem firstN_some {n k : Nat} {q : Nat → Bool} (hk : k < n) (h1 : ∀ j, j < k → q j = false) (h2 : q k = true) : firstN n q = k := by
  unfold firstN
  have : (List.range n).find? q = some k := by
    rw [List.find?_range_eq_some]
    exact ⟨h2, List.mem_range.2 hk, fun j hj => by simpa using h1 j hj⟩
  rw [this]
set_option maxRecDepth 100000 in
theorem firstN_none {n : Nat} {q : Nat → Bool} (h : ∀ j, j < n → q j = false) : firstN n q = -1 := by
  unfold firstN
  have : (List.range n).find? q = none := by
    rw [List.find?_eq_none]
    intro x hx
    rw [h x (List.mem_range.1 hx)]; decide
  rw [this]
set_option maxRecDepth 100000 in
theorem none_succ {q : Nat → Bool} {k : Nat} (h : ∀ j, j < k → q j = false) (hk : q k = false) : ∀ j, j < k + 1 → q j = false := fun j hj => by
  rcases Nat.lt_succ_iff_lt_or_eq.1 hj with h1 | rfl
  · exact h j h1
  · exact hk

end Go.Proofs.YtilcdnkkabmbfaaGreat
