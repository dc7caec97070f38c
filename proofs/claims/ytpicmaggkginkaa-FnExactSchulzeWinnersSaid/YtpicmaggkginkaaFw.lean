/- Strengths of paths, as tables that are improved cell by cell. -/
import Derived.Test.YtpicmaggkginkaaPlc
namespace Go.Proofs.Ytpicmaggkginkaa
open Go.RowKit

set_option maxRecDepth 100000 in
/-- A cell of the matrix is written whose row is known. -/
theorem Mat.set {w : World} {B g n b m c : Nat} {us : Nat → Value} {rows : Nat → List Int} (h : Mat w B g n us rows) {i j : Nat} {x : Int} (hi : i < n) (hx : (rows i)[j]? = some x) (hu : us i = .slice (some ⟨b, 0, none⟩) m c) (y : Int) :
    Mat (w.setCell ⟨b, j, none⟩ (.int .i64 y)) B g n us (fun o => if o = i then (rows i).set j y else rows o) := by
  obtain ⟨b', c', hv, _, _, _, _, hM⟩ := h.cell hi hx
  rw [hu] at hv
  injection hv with hv
  injection hv with hv
  injection hv with hv
  subst hv
  exact hM y

def fw1 (M : Nat → Nat → Int) (k a b : Nat) : Nat → Nat → Int := fun x y => if x = a ∧ y = b ∧ a ≠ b then max (M a b) (min (M a k) (M k b)) else M x y
def fwB (M : Nat → Nat → Int) (k a : Nat) : Nat → Nat → Nat → Int
  | 0 => M
  | m + 1 => fw1 (fwB M k a m) k a m
def fwA (n : Nat) (M : Nat → Nat → Int) (k : Nat) : Nat → Nat → Nat → Int
  | 0 => M
  | i + 1 => fwB (fwA n M k i) k i n
def fwK (n : Nat) (M : Nat → Nat → Int) : Nat → Nat → Nat → Int
  | 0 => M
  | k + 1 => fwA n (fwK n M k) k n
def fw0 (vs : List Vt) (a b : Nat) : Int := if bt vs a b then pairV vs a b else 0
def pthV (n : Nat) (vs : List Vt) : Nat → Nat → Int := fwK n (fw0 vs) n
def pthO (sz : Int) (vs : List Vt) : List (List Int) := if profOk sz vs then tabL sz.toNat (pthV sz.toNat vs) else []
set_option maxRecDepth 100000 in
theorem pthO_bd (sz : Int) (vs : List Vt) : (pthO sz vs).length ≤ 1000 ∧ ∀ x ∈ pthO sz vs, x.length ≤ 100 := by
  unfold pthO
  cases h0 : profOk sz vs
  · simp
  · obtain ⟨n, rfl, n1, n2⟩ := prof_nat h0
    simpa using tabL_bd n2
set_option maxRecDepth 100000 in
theorem fw1_same (M : Nat → Nat → Int) (k a : Nat) : fw1 M k a a = M := by
  funext x y; unfold fw1; rw [if_neg (fun h => h.2.2 rfl)]
set_option maxRecDepth 100000 in
theorem fw1_row {n : Nat} (M : Nat → Nat → Int) {k a b : Nat} (hne : a ≠ b) (o : Nat) :
    (if o = a then (rowL n (M a)).set b (max (M a b) (min (M a k) (M k b))) else rowL n (M o)) = rowL n (fw1 M k a b o) := by
  by_cases e : o = a
  · subst e
    rw [if_pos rfl]
    refine rowL_set (fun j _ => ?_)
    unfold fw1
    by_cases e2 : j = b
    · subst e2; rw [if_pos ⟨rfl, rfl, hne⟩, if_pos rfl]
    · rw [if_neg (fun h => e2 h.2.1), if_neg e2]
  · rw [if_neg e]
    refine rowL_congr (fun j _ => ?_)
    unfold fw1
    rw [if_neg (fun h => e h.1)]

end Go.Proofs.Ytpicmaggkginkaa
