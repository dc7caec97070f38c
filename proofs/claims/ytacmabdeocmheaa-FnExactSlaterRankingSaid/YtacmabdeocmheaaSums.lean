/- How many each candidate beats, and how many beat it. -/
import Derived.Test.YtacmabdeocmheaaThose
import Derived.Test.YtacmabdeocmheaaWr
namespace Go.Proofs.Ytacmabdeocmheaa
open Go.RowKit

def cntN (n : Nat) (q : Nat → Bool) : Nat := (List.range n).countP q
set_option maxRecDepth 100000 in
theorem cntN_succ (n : Nat) (q : Nat → Bool) : cntN (n + 1) q = cntN n q + if q n then 1 else 0 := by
  unfold cntN
  rw [List.range_succ, List.countP_append, List.countP_singleton]
set_option maxRecDepth 100000 in
theorem cntN_le (n : Nat) (q : Nat → Bool) : cntN n q ≤ n := by
  have := List.countP_le_length (p := q) (l := List.range n)
  unfold cntN
  simpa using this
set_option maxRecDepth 100000 in
theorem cntN_zero (q : Nat → Bool) : cntN 0 q = 0 := by simp [cntN]
def rowL (n : Nat) (f : Nat → Int) : List Int := (List.range n).map f
set_option maxRecDepth 100000 in
theorem rowL_len (n : Nat) (f : Nat → Int) : (rowL n f).length = n := by simp [rowL]
set_option maxRecDepth 100000 in
theorem rowL_at {n : Nat} {f : Nat → Int} {j : Nat} (h : j < n) : (rowL n f)[j]? = some (f j) := by simp [rowL, h]
set_option maxRecDepth 100000 in
theorem rowL_val {n : Nat} {f : Nat → Int} {j : Nat} {x : Int} (h : (rowL n f)[j]? = some x) : j < n ∧ x = f j := by
  have hj := lt_of_at h
  rw [rowL_len] at hj
  rw [rowL_at hj] at h
  injection h with h
  exact ⟨hj, h.symm⟩
set_option maxRecDepth 100000 in
theorem rowL_succ (n : Nat) (f : Nat → Int) : rowL (n + 1) f = rowL n f ++ [f n] := by simp [rowL, List.range_succ]
set_option maxRecDepth 100000 in
theorem rowL_congr {n : Nat} {f g : Nat → Int} (h : ∀ j, j < n → f j = g j) : rowL n f = rowL n g := by
  unfold rowL
  exact List.map_congr_left (fun x hx => h x (List.mem_range.1 hx))

/-- B: how i stands to j. The tables after the rows below i and m places of row i. -/
def tabU (n : Nat) (B : Nat → Nat → Bool) (i m o : Nat) : Nat := if o < i then cntN n (B o) else if o = i then cntN m (B i) else 0
def tabD (B : Nat → Nat → Bool) (i m o : Nat) : Nat := cntN (if o < m then i + 1 else i) (fun x => B x o)
set_option maxRecDepth 100000 in
theorem tabU_zero (n : Nat) (B : Nat → Nat → Bool) (o : Nat) : tabU n B 0 0 o = 0 := by
  unfold tabU; rw [if_neg (by omega)]; split <;> simp [cntN]
set_option maxRecDepth 100000 in
theorem tabD_zero (B : Nat → Nat → Bool) (o : Nat) : tabD B 0 0 o = 0 := by
  unfold tabD; rw [if_neg (by omega)]; simp [cntN]
set_option maxRecDepth 100000 in
theorem tabU_at (n : Nat) (B : Nat → Nat → Bool) (i m : Nat) : tabU n B i m i = cntN m (B i) := by
  unfold tabU; rw [if_neg (by omega), if_pos rfl]
set_option maxRecDepth 100000 in
theorem tabD_at (B : Nat → Nat → Bool) (i m : Nat) : tabD B i m m = cntN i (fun x => B x m) := by
  unfold tabD; rw [if_neg (by omega)]
set_option maxRecDepth 100000 in
theorem tabU_step (n : Nat) (B : Nat → Nat → Bool) (i m o : Nat) : tabU n B i (m + 1) o = tabU n B i m o + if o = i then (if B i m then 1 else 0) else 0 := by
  unfold tabU
  by_cases h1 : o < i
  · rw [if_pos h1, if_pos h1, if_neg (by omega)]; rfl
  · by_cases h2 : o = i
    · rw [if_neg h1, if_neg h1, if_pos h2, if_pos h2, if_pos h2, cntN_succ]
    · rw [if_neg h1, if_neg h1, if_neg h2, if_neg h2, if_neg h2]
set_option maxRecDepth 100000 in
theorem tabD_step (B : Nat → Nat → Bool) (i m o : Nat) : tabD B i (m + 1) o = tabD B i m o + if o = m then (if B i m then 1 else 0) else 0 := by
  unfold tabD
  by_cases h1 : o < m
  · rw [if_pos h1, if_pos (by omega), if_neg (by omega)]; rfl
  · by_cases h2 : o = m
    · subst h2; rw [if_neg h1, if_pos (by omega), if_pos rfl, cntN_succ]
    · rw [if_neg h1, if_neg (by omega), if_neg h2]; rfl
set_option maxRecDepth 100000 in
theorem tabU_done (n : Nat) (B : Nat → Nat → Bool) (i o : Nat) : tabU n B i n o = tabU n B (i + 1) 0 o := by
  unfold tabU
  by_cases h1 : o < i
  · rw [if_pos h1, if_pos (by omega)]
  · by_cases h2 : o = i
    · subst h2; rw [if_neg h1, if_pos rfl, if_pos (by omega)]
    · rw [if_neg h1, if_neg h2, if_neg (by omega)]; split <;> simp [cntN]
set_option maxRecDepth 100000 in
theorem tabD_done (n : Nat) (B : Nat → Nat → Bool) (i o : Nat) (h : o < n) : tabD B i n o = tabD B (i + 1) 0 o := by
  unfold tabD; rw [if_pos h, if_neg (by omega)]
set_option maxRecDepth 100000 in
theorem tab_le (n : Nat) (B : Nat → Nat → Bool) (i m : Nat) (hm : m ≤ n) (o : Nat) : tabU n B i m o ≤ n := by
  unfold tabU
  split
  · exact cntN_le _ _
  · split
    · exact Nat.le_trans (cntN_le _ _) hm
    · omega
def iv (x : Nat) : Value := .int .i64 (x : Int)

def bt (vs : List Vt) (i j : Nat) : Bool := beatsV vs (i : Int) (j : Int)
def upsL (n : Nat) (vs : List Vt) : List Int := rowL n (fun i => (cntN n (bt vs i) : Nat))
def dnsL (n : Nat) (vs : List Vt) : List Int := rowL n (fun j => (cntN n (fun i => bt vs i j) : Nat))

end Go.Proofs.Ytacmabdeocmheaa
