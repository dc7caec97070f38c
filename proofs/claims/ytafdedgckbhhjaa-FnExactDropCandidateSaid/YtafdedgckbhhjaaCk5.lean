/- Pair counts, margins, beats and covering as the two sides give them. Covering and transitivity. Candidates picked out by a relation to all others. How many each candidate beats, and how many beat it. -/
import Derived.Test.YtafdedgckbhhjaaCk2
import Derived.Test.YtafdedgckbhhjaaCk0
import Derived.Test.YtafdedgckbhhjaaCk3
namespace Go.Proofs.Ytafdedgckbhhjaa
open Go.RowKit

def pairO (sz : Int) (vs : List Vt) (x y : Int) : Int := if profOk sz vs && (hasB sz x && hasB sz y) then pairV vs x y else -1
def marginO (sz : Int) (vs : List Vt) (x y : Int) : Int := if profOk sz vs && (hasB sz x && hasB sz y) then marginV vs x y else 0

def allN (n : Nat) (p : Nat → Bool) : Bool := (List.range n).all p
set_option maxRecDepth 100000 in
theorem allN_t {n : Nat} {p : Nat → Bool} (h : ∀ j, j < n → p j = true) : allN n p = true := by
  unfold allN; rw [List.all_eq_true]; intro x hx; exact h x (List.mem_range.1 hx)
set_option maxRecDepth 100000 in
theorem allN_f {n : Nat} {p : Nat → Bool} {k : Nat} (hk : k < n) (h : p k = false) : allN n p = false := by
  unfold allN; rw [List.all_eq_false]; exact ⟨k, List.mem_range.2 hk, by simp [h]⟩
set_option maxRecDepth 100000 in
theorem upto_succ {p : Nat → Bool} {k : Nat} (h : ∀ j, j < k → p j = true) (hk : p k = true) : ∀ j, j < k + 1 → p j = true := fun j hj => by
  rcases Nat.lt_succ_iff_lt_or_eq.1 hj with h1 | rfl
  · exact h j h1
  · exact hk

def coversP (vs : List Vt) (a b : Int) (z : Nat) : Bool := !(beatsV vs z a && !beatsV vs z b)
def coversV (n : Nat) (vs : List Vt) (a b : Int) : Bool := beatsV vs a b && allN n (coversP vs a b)

def coverO (sz : Int) (vs : List Vt) (x y : Int) : Bool := profOk sz vs && (hasB sz x && (hasB sz y && coversV sz.toNat vs x y))
set_option maxRecDepth 100000 in
theorem prof_nat {sz : Int} {vs : List Vt} (h : profOk sz vs = true) : ∃ n : Nat, sz = n ∧ 1 ≤ n ∧ n ≤ 5 := by
  have := prof_size h
  exact ⟨sz.toNat, by omega, by omega, by omega⟩

def upL (n : Nat) (q : Nat → Bool) : List Int := ((List.range n).filter q).map (fun i : Nat => (i : Int))
set_option maxRecDepth 100000 in
theorem upL_succ (n : Nat) (q : Nat → Bool) : upL (n + 1) q = upL n q ++ if q n then [(n : Int)] else [] := by
  unfold upL
  rw [List.range_succ, List.filter_append, List.map_append]
  cases h : q n <;> simp [h]
set_option maxRecDepth 100000 in
theorem upL_len (n : Nat) (q : Nat → Bool) : (upL n q).length ≤ n := by
  unfold upL
  rw [List.length_map]
  exact Nat.le_trans (List.length_filter_le _ _) (by simp)
set_option maxRecDepth 100000 in
theorem upL_congr {n : Nat} {q q' : Nat → Bool} (h : ∀ i, i < n → q i = q' i) : upL n q = upL n q' := by
  unfold upL
  congr 1
  exact List.filter_congr (fun x hx => h x (List.mem_range.1 hx))
set_option maxRecDepth 100000 in
theorem allN_succ (n : Nat) (p : Nat → Bool) : allN (n + 1) p = (allN n p && p n) := by
  unfold allN; rw [List.range_succ, List.all_append]; simp

def thoseP (n : Nat) (p : Nat → Nat → Bool) (i : Nat) : Bool := allN n (fun j => decide (i = j) || p i j)
def thoseO (sz : Int) (vs : List Vt) (p : Nat → Nat → Bool) : List Int := if profOk sz vs then upL sz.toNat (thoseP sz.toNat p) else []

def onlyL (xs : List Int) : Int := match xs with | [x] => x | _ => -1

def cntN (n : Nat) (q : Nat → Bool) : Nat := (List.range n).countP q
set_option maxRecDepth 100000 in
theorem cntN_succ (n : Nat) (q : Nat → Bool) : cntN (n + 1) q = cntN n q + if q n then 1 else 0 := by
  unfold cntN
  rw [List.range_succ, List.countP_append, List.countP_singleton]
set_option maxRecDepth 100000 in
theorem cntN_le (n : Nat) (q : Nat → Bool) : cntN n q ≤ n := by
  have := List.countP_le_length (p := q) (l := List.range n)
  unfold cntN
  simpa using this
set_option maxRecDepth 100000 in
theorem cntN_zero (q : Nat → Bool) : cntN 0 q = 0 := by simp [cntN]
def rowL (n : Nat) (f : Nat → Int) : List Int := (List.range n).map f
set_option maxRecDepth 100000 in
theorem rowL_len (n : Nat) (f : Nat → Int) : (rowL n f).length = n := by simp [rowL]
set_option maxRecDepth 100000 in
theorem rowL_at {n : Nat} {f : Nat → Int} {j : Nat} (h : j < n) : (rowL n f)[j]? = some (f j) := by simp [rowL, h]
set_option maxRecDepth 100000 in
theorem rowL_val {n : Nat} {f : Nat → Int} {j : Nat} {x : Int} (h : (rowL n f)[j]? = some x) : j < n ∧ x = f j := by
  have hj := lt_of_at h
  rw [rowL_len] at hj
  rw [rowL_at hj] at h
  injection h with h
  exact ⟨hj, h.symm⟩
set_option maxRecDepth 100000 in
theorem rowL_succ (n : Nat) (f : Nat → Int) : rowL (n + 1) f = rowL n f ++ [f n] := by simp [rowL, List.range_succ]
set_option maxRecDepth 100000 in
theorem rowL_congr {n : Nat} {f g : Nat → Int} (h : ∀ j, j < n → f j = g j) : rowL n f = rowL n g := by
  unfold rowL
  exact List.map_congr_left (fun x hx => h x (List.mem_range.1 hx))

/-- B: how i stands to j. The tables after the rows below i and m places of row i. -/
def tabU (n : Nat) (B : Nat → Nat → Bool) (i m o : Nat) : Nat := if o < i then cntN n (B o) else if o = i then cntN m (B i) else 0
def tabD (B : Nat → Nat → Bool) (i m o : Nat) : Nat := cntN (if o < m then i + 1 else i) (fun x => B x o)
set_option maxRecDepth 100000 in
theorem tabU_zero (n : Nat) (B : Nat → Nat → Bool) (o : Nat) : tabU n B 0 0 o = 0 := by
  unfold tabU; rw [if_neg (by omega)]; split <;> simp [cntN]
set_option maxRecDepth 100000 in
theorem tabD_zero (B : Nat → Nat → Bool) (o : Nat) : tabD B 0 0 o = 0 := by
  unfold tabD; rw [if_neg (by omega)]; simp [cntN]
set_option maxRecDepth 100000 in
theorem tabU_at (n : Nat) (B : Nat → Nat → Bool) (i m : Nat) : tabU n B i m i = cntN m (B i) := by
  unfold tabU; rw [if_neg (by omega), if_pos rfl]
set_option maxRecDepth 100000 in
theorem tabD_at (B : Nat → Nat → Bool) (i m : Nat) : tabD B i m m = cntN i (fun x => B x m) := by
  unfold tabD; rw [if_neg (by omega)]
set_option maxRecDepth 100000 in
theorem tabU_step (n : Nat) (B : Nat → Nat → Bool) (i m o : Nat) : tabU n B i (m + 1) o = tabU n B i m o + if o = i then (if B i m then 1 else 0) else 0 := by
  unfold tabU
  by_cases h1 : o < i
  · rw [if_pos h1, if_pos h1, if_neg (by omega)]; rfl
  · by_cases h2 : o = i
    · rw [if_neg h1, if_neg h1, if_pos h2, if_pos h2, if_pos h2, cntN_succ]
    · rw [if_neg h1, if_neg h1, if_neg h2, if_neg h2, if_neg h2]
set_option maxRecDepth 100000 in
theorem tabD_step (B : Nat → Nat → Bool) (i m o : Nat) : tabD B i (m + 1) o = tabD B i m o + if o = m then (if B i m then 1 else 0) else 0 := by
  unfold tabD
  by_cases h1 : o < m
  · rw [if_pos h1, if_pos (by omega), if_neg (by omega)]; rfl
  · by_cases h2 : o = m
    · subst h2; rw [if_neg h1, if_pos (by omega), if_pos rfl, cntN_succ]
    · rw [if_neg h1, if_neg (by omega), if_neg h2]; rfl
set_option maxRecDepth 100000 in
theorem tabU_done (n : Nat) (B : Nat → Nat → Bool) (i o : Nat) : tabU n B i n o = tabU n B (i + 1) 0 o := by
  unfold tabU
  by_cases h1 : o < i
  · rw [if_pos h1, if_pos (by omega)]
  · by_cases h2 : o = i
    · subst h2; rw [if_neg h1, if_pos rfl, if_pos (by omega)]
    · rw [if_neg h1, if_neg h2, if_neg (by omega)]; split <;> simp [cntN]
set_option maxRecDepth 100000 in
theorem tabD_done (n : Nat) (B : Nat → Nat → Bool) (i o : Nat) (h : o < n) : tabD B i n o = tabD B (i + 1) 0 o := by
  unfold tabD; rw [if_pos h, if_neg (by omega)]
set_option maxRecDepth 100000 in
theorem tab_le (n : Nat) (B : Nat → Nat → Bool) (i m : Nat) (hm : m ≤ n) (o : Nat) : tabU n B i m o ≤ n := by
  unfold tabU
  split
  · exact cntN_le _ _
  · split
    · exact Nat.le_trans (cntN_le _ _) hm
    · omega
def iv (x : Nat) : Value := .int .i64 (x : Int)

def bt (vs : List Vt) (i j : Nat) : Bool := beatsV vs (i : Int) (j : Int)
def upsL (n : Nat) (vs : List Vt) : List Int := rowL n (fun i => (cntN n (bt vs i) : Nat))
def dnsL (n : Nat) (vs : List Vt) : List Int := rowL n (fun j => (cntN n (fun i => bt vs i j) : Nat))

end Go.Proofs.Ytafdedgckbhhjaa
