/- All orders of a list: the two ways of naming them answer alike (plain law). -/
import Derived.Test.YtacmabdeocmheaaElimP
namespace Go.Proofs.Ytacmabdeocmheaa
open Go.RowKit

set_option maxRecDepth 100000 in
theorem flatMap_same {α β : Type} {f g : α → List β} : ∀ {l : List α}, (∀ x ∈ l, f x = g x) → l.flatMap f = l.flatMap g
  | [], _ => rfl
  | x :: l, h => by
    rw [List.flatMap_cons, List.flatMap_cons, h x (by simp), flatMap_same (fun y hy => h y (by simp [hy]))]
set_option maxRecDepth 100000 in
theorem flatMap_range {β : Type} (f : Int → List β) : ∀ s : List Int, s.flatMap f = (List.range s.length).flatMap (fun i => f (s.getD i 0))
  | [] => rfl
  | x :: s => by
    rw [List.flatMap_cons, flatMap_range f s, List.length_cons, List.range_succ_eq_map, List.flatMap_cons, List.flatMap_map]
    rfl

/-- The orders that begin with `pre`, k more candidates to come, as the spec draws them. -/
def allS (n : Nat) : Nat → List Int → List (List Int)
  | 0, pre => [pre]
  | k + 1, pre => (leftL n pre).flatMap (fun x => allS n k (pre ++ [x]))

/-- The orders of s (of length k) as the implementation draws them. -/
def ordL : Nat → List Int → List (List Int)
  | 0, _ => [[]]
  | k + 1, s => (List.range s.length).flatMap (fun i => (ordL k (s.eraseIdx i)).map (fun r => s.getD i 0 :: r))

set_option maxRecDepth 100000 in
theorem all_ord (n : Nat) : ∀ (k : Nat) (pre : List Int), allS n k pre = (ordL k (leftL n pre)).map (fun r => pre ++ r)
  | 0, pre => by simp [allS, ordL]
  | k + 1, pre => by
    unfold allS ordL
    rw [flatMap_range, List.map_flatMap]
    refine flatMap_same (fun i hi => ?_)
    have hi := List.mem_range.1 hi
    have hg : (leftL n pre)[i]? = some ((leftL n pre).getD i 0) := by
      rw [List.getD_eq_getElem?_getD, List.getElem?_eq_getElem hi]; rfl
    rw [all_ord n k, ← leftL_erase hg, List.map_map]
    refine List.map_congr_left (fun r _ => ?_)
    simp

set_option maxRecDepth 100000 in
theorem ordL_len (k : Nat) : ∀ (s : List Int), s.length = k → ∀ r ∈ ordL k s, r.length = k := by
  induction k with
  | zero => intro s _ r hr; simp [ordL] at hr; simp [hr]
  | succ k ih =>
    intro s hs r hr
    unfold ordL at hr
    obtain ⟨i, hi, hr⟩ := List.mem_flatMap.1 hr
    obtain ⟨t, ht, rfl⟩ := List.mem_map.1 hr
    have hi := List.mem_range.1 hi
    rw [List.length_cons, ih (s.eraseIdx i) (by rw [List.length_eraseIdx_of_lt hi]; omega) t ht]

/-- All rankings of n candidates. -/
def allO (n : Nat) : List (List Int) := allS n n []
set_option maxRecDepth 100000 in
theorem all_eq (n : Nat) : allO n = ordL n (leftL n []) := by
  unfold allO; rw [all_ord]; simp

end Go.Proofs.Ytacmabdeocmheaa
