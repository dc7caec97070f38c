/- Candidates picked out by a relation to all others. -/
import Derived.Test.YtagepfgncbgncaaCover
namespace Go.Proofs.Ytagepfgncbgncaa
open Go.RowKit

def upL (n : Nat) (q : Nat → Bool) : List Int := ((List.range n).filter q).map (fun i : Nat => (i : Int))
set_option maxRecDepth 100000 in
theorem upL_succ (n : Nat) (q : Nat → Bool) : upL (n + 1) q = upL n q ++ if q n then [(n : Int)] else [] := by
  unfold upL
  rw [List.range_succ, List.filter_append, List.map_append]
  cases h : q n <;> simp [h]
set_option maxRecDepth 100000 in
theorem upL_len (n : Nat) (q : Nat → Bool) : (upL n q).length ≤ n := by
  unfold upL
  rw [List.length_map]
  exact Nat.le_trans (List.length_filter_le _ _) (by simp)
set_option maxRecDepth 100000 in
theorem upL_congr {n : Nat} {q q' : Nat → Bool} (h : ∀ i, i < n → q i = q' i) : upL n q = upL n q' := by
  unfold upL
  congr 1
  exact List.filter_congr (fun x hx => h x (List.mem_range.1 hx))
set_option maxRecDepth 100000 in
theorem allN_succ (n : Nat) (p : Nat → Bool) : allN (n + 1) p = (allN n p && p n) := by
  unfold allN; rw [List.range_succ, List.all_append]; simp

def thoseP (n : Nat) (p : Nat → Nat → Bool) (i : Nat) : Bool := allN n (fun j => decide (i = j) || p i j)
def thoseO (sz : Int) (vs : List Vt) (p : Nat → Nat → Bool) : List Int := if profOk sz vs then upL sz.toNat (thoseP sz.toNat p) else []

def onlyL (xs : List Int) : Int := match xs with | [x] => x | _ => -1

end Go.Proofs.Ytagepfgncbgncaa
