/- The table of places. -/
import Derived.Test.YtacmabdeocmheaaMgn
namespace Go.Proofs.Ytacmabdeocmheaa
open Go.RowKit

set_option maxRecDepth 100000 in
theorem len_le : ∀ (n : Nat) (r : List Int), r.Nodup → (∀ x ∈ r, 0 ≤ x ∧ x < (n : Int)) → r.length ≤ n
  | 0, r, _, h => by
    cases r with
    | nil => simp
    | cons x r => have := h x (by simp); omega
  | n + 1, r, hd, h => by
    have h1 := len_le n (r.erase (n : Int)) (hd.erase _) (fun x hx => by
      have h2 := h x (List.mem_of_mem_erase hx)
      have h3 : x ≠ (n : Int) := fun e => by subst e; exact hd.not_mem_erase hx
      omega)
    by_cases hm : (n : Int) ∈ r
    · rw [List.length_erase_of_mem hm] at h1; omega
    · rw [List.erase_of_not_mem hm] at h1; omega
set_option maxRecDepth 100000 in
theorem rk_all {n : Nat} {r : List Int} (h : rkOk n r = true) {a : Nat} (ha : a < n) : (a : Int) ∈ r := by
  by_cases hm : (a : Int) ∈ r
  · exact hm
  · have h1 := len_le n ((a : Int) :: r) (List.nodup_cons.2 ⟨hm, rk_nodup h⟩) (fun x hx => by
      rcases List.mem_cons.1 hx with rfl | hx
      · omega
      · have := rk_mem h hx; omega)
    have h2 := (rk_len h).1
    simp at h1; omega
set_option maxRecDepth 100000 in
theorem nodup_inj {r : List Int} (h : r.Nodup) {i j : Nat} {x : Int} (hi : r[i]? = some x) (hj : r[j]? = some x) : i = j := by
  obtain ⟨hil, hi⟩ := List.getElem?_eq_some_iff.1 hi
  obtain ⟨hjl, hj⟩ := List.getElem?_eq_some_iff.1 hj
  rcases Nat.lt_trichotomy i j with h1 | h1 | h1
  · exact absurd (hi.trans hj.symm) (List.pairwise_iff_getElem.1 h i j hil hjl h1)
  · exact h1
  · exact absurd (hj.trans hi.symm) (List.pairwise_iff_getElem.1 h j i hjl hil h1)
set_option maxRecDepth 100000 in
/-- Where a candidate stands in a valid ranking. -/
theorem place_at {n : Nat} {r : List Int} (h : rkOk n r = true) {a : Nat} (ha : a < n) : ∃ k : Nat, k < n ∧ placeI r a = k ∧ r[k]? = some (a : Int) ∧ ∀ j, r[j]? = some (a : Int) → j = k := by
  have hm := rk_all h ha
  have hl := (rk_len h).1
  unfold placeI findI
  cases hf : r.findIdx? (fun y => (a : Int) == y) with
  | none =>
    rw [List.findIdx?_eq_none_iff] at hf
    have := hf _ hm
    simp at this
  | some k =>
    rw [List.findIdx?_eq_some_iff_getElem] at hf
    obtain ⟨hk, h1, _⟩ := hf
    have h2 : r[k]? = some (a : Int) := by rw [List.getElem?_eq_getElem hk]; simp at h1; rw [← h1]
    exact ⟨k, by omega, rfl, h2, fun j hj => nodup_inj (rk_nodup h) hj h2⟩

set_option maxRecDepth 100000 in
theorem pref_self (r : List Int) (x : Int) : prefB r x x = false := by simp [prefB]
set_option maxRecDepth 100000 in
theorem pref_tot {n : Nat} {r : List Int} (h : rkOk n r = true) {x y : Nat} (hx : x < n) (hy : y < n) (hne : x ≠ y) : prefB r x y = !prefB r y x := by
  obtain ⟨p, _, h1, h2, _⟩ := place_at h hx
  obtain ⟨q, _, h3, h4, _⟩ := place_at h hy
  have hpq : p ≠ q := fun e => by subst e; rw [h2] at h4; injection h4 with h4; omega
  unfold prefB
  rw [h1, h3]
  by_cases h5 : p < q
  · have h6 : ¬ q < p := by omega
    simp [h5, h6]
  · have h6 : q < p := by omega
    simp [h5, h6]

def plcP (a k : Nat) (r : List Int) : Bool := r[k]? == some (a : Int)
def plcV (vs : List Vt) (a k : Nat) : Int := sumV (plcP a k) vs
def plcO (sz : Int) (vs : List Vt) : List (List Int) := if profOk sz vs then tabL sz.toNat (plcV vs) else []
set_option maxRecDepth 100000 in
theorem plcO_bd (sz : Int) (vs : List Vt) : (plcO sz vs).length ≤ 1000 ∧ ∀ x ∈ plcO sz vs, x.length ≤ 100 := by
  unfold plcO
  cases h0 : profOk sz vs
  · simp
  · obtain ⟨n, rfl, n1, n2⟩ := prof_nat h0
    simpa using tabL_bd n2

set_option maxRecDepth 100000 in
theorem OwnI.made (w : World) (n : Nat) (hn : n ≤ 2000000) : OwnI (w.alloc (.cells (madeCells #[.int .i64 0] n) 3)) w.heap.size (.slice (some ⟨w.heap.size, 0, none⟩) n n) (rowL n (fun _ => 0)) := by
  have h := World.ownsRow_lit (base := w.heap.size) (e := 3) (size := 1) w (madeCells #[.int .i64 0] n) n (Nat.le_refl _) (by unfold maxLen; omega) (by rw [size_madeCells]; omega)
  unfold OwnI
  have e : (rowL n (fun _ => 0)).map (Value.int .i64) = (madeCells #[Value.int .i64 0] n).toList := by
    have h0 := toList_madeCells_one (.int .i64 0) n
    have h1 : (madeCells #[Value.int .i64 0] n).toList = List.replicate n (.int .i64 0) := h0
    rw [h1]
    apply List.ext_getElem?
    intro j
    by_cases hj : j < n
    · simp [rowL, hj]
    · simp [rowL, hj]
  rw [rowL_len, e]
  exact h
set_option maxRecDepth 100000 in
theorem rowL_set {n : Nat} {f g : Nat → Int} {k : Nat} {y : Int} (hg : ∀ j, j < n → g j = if j = k then y else f j) : (rowL n f).set k y = rowL n g := by
  apply List.ext_getElem?
  intro j
  by_cases hj : j < n
  · by_cases e : k = j
    · subst e
      rw [List.getElem?_set_self (by rw [rowL_len]; exact hj), rowL_at hj, hg k hj, if_pos rfl]
    · rw [List.getElem?_set_ne e, rowL_at hj, rowL_at hj, hg j hj, if_neg (Ne.symm e)]
  · rw [List.getElem?_eq_none (by rw [List.length_set, rowL_len]; omega), List.getElem?_eq_none (by rw [rowL_len]; omega)]

end Go.Proofs.Ytacmabdeocmheaa
