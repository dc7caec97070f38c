/- Condorcet winner and loser, the unbeaten. -/
import Derived.Test.YtacmabdeocmheaaSums
namespace Go.Proofs.Ytacmabdeocmheaa
open Go.RowKit

def fullI (xs : List Int) : Int := findI (fun x => x == (xs.length : Int) - 1) xs

set_option maxRecDepth 100000 in
theorem allN_iff {n : Nat} {p : Nat → Bool} : allN n p = true ↔ ∀ j, j < n → p j = true := by
  unfold allN; rw [List.all_eq_true]
  exact ⟨fun h j hj => h j (List.mem_range.2 hj), fun h x hx => h x (List.mem_range.1 hx)⟩
set_option maxRecDepth 100000 in
theorem cntN_all {n : Nat} {p : Nat → Bool} : cntN n p = n ↔ allN n p = true := by
  rw [allN_iff]
  unfold cntN
  have h := List.countP_eq_length (p := p) (l := List.range n)
  rw [List.length_range] at h
  rw [h]
  exact ⟨fun h j hj => h j (List.mem_range.2 hj), fun h x hx => h x (List.mem_range.1 hx)⟩
set_option maxRecDepth 100000 in
theorem cntN_none {n : Nat} {p : Nat → Bool} : cntN n p = 0 ↔ allN n (fun j => !p j) = true := by
  rw [allN_iff]
  unfold cntN
  rw [List.countP_eq_zero]
  exact ⟨fun h j hj => by have := h j (List.mem_range.2 hj); simpa using this, fun h x hx => by have := h x (List.mem_range.1 hx); simpa using this⟩
set_option maxRecDepth 100000 in
theorem cntN_but (i : Nat) (q : Nat → Bool) (hi : q i = false) : ∀ k, cntN k (fun j => decide (i = j) || q j) = cntN k q + if i < k then 1 else 0
  | 0 => by simp [cntN]
  | k + 1 => by
    rw [cntN_succ, cntN_succ, cntN_but i q hi k]
    by_cases e : i = k
    · subst e
      simp [hi]
    · by_cases h : i < k
      · have h3 : i < k + 1 := by omega
        simp [e, h, h3]; omega
      · have h3 : ¬ i < k + 1 := by omega
        simp [e, h, h3]
set_option maxRecDepth 100000 in
theorem full_those {n i : Nat} {B : Nat → Nat → Bool} (hi : i < n) (h : B i i = false) : (cntN n (B i) = n - 1) ↔ thoseP n B i = true := by
  unfold thoseP
  rw [← cntN_all, cntN_but i (B i) h n, if_pos hi]
  omega
set_option maxRecDepth 100000 in
theorem upL_one {n i : Nat} {q : Nat → Bool} (hi : i < n) (h : q i = true) (hu : ∀ j, j < n → q j = true → j = i) : upL n q = [(i : Int)] := by
  have key : ∀ k, k ≤ n → upL k q = if i < k then [(i : Int)] else [] := by
    intro k
    induction k with
    | zero => intro _; simp [upL]
    | succ k ih =>
      intro hk
      rw [upL_succ, ih (by omega)]
      by_cases e : k = i
      · subst e; simp [h]
      · have hq : q k = false := by
          cases hq : q k
          · rfl
          · exact absurd (hu k (by omega) hq) e
        rw [hq]
        by_cases h2 : i < k
        · have h3 : i < k + 1 := by omega
          simp [h2, h3]
        · have h3 : ¬ i < k + 1 := by omega
          simp [h2, h3]
  rw [key n (Nat.le_refl _), if_pos hi]
set_option maxRecDepth 100000 in
theorem upL_none {n : Nat} {q : Nat → Bool} (h : ∀ j, j < n → q j = false) : upL n q = [] := by
  unfold upL
  rw [List.map_eq_nil_iff, List.filter_eq_nil_iff]
  intro x hx
  rw [h x (List.mem_range.1 hx)]; simp

set_option maxRecDepth 100000 in
theorem full_only {n : Nat} {B : Nat → Nat → Bool} (hn : 1 ≤ n) (ha : ∀ i j, B i j = true → B j i = false) :
    fullI (rowL n (fun i => (cntN n (B i) : Nat))) = onlyL (upL n (thoseP n B)) := by
  have hirr : ∀ i, B i i = false := fun i => by
    cases h : B i i
    · rfl
    · have := ha i i h
      rw [h] at this; cases this
  have hu : ∀ i j, i < n → j < n → thoseP n B i = true → thoseP n B j = true → j = i := fun i j hi hj h1 h2 => by
    by_cases e : j = i
    · exact e
    · have a1 := allN_iff.1 h1 j hj
      have a2 := allN_iff.1 h2 i hi
      simp only [Bool.or_eq_true, decide_eq_true_eq] at a1 a2
      rcases a1 with a1 | a1
      · exact a1.symm
      · rcases a2 with a2 | a2
        · exact a2
        · rw [ha i j a1] at a2; cases a2
  have hp : ∀ i, i < n → ((((cntN n (B i) : Nat) : Int) == ((n : Int) - 1)) = thoseP n B i) := fun i hi => by
    have h1 := full_those (B := B) hi (hirr i)
    cases h2 : thoseP n B i
    · have : ¬ cntN n (B i) = n - 1 := fun h => by rw [h1.1 h] at h2; cases h2
      simp; omega
    · have := h1.2 h2
      simp; omega
  unfold fullI
  rw [rowL_len]
  by_cases hex : ∃ i, i < n ∧ thoseP n B i = true
  · obtain ⟨i, hi, hq⟩ := hex
    rw [upL_one hi hq (fun j hj hj2 => hu i j hi hj hq hj2)]
    refine findI_some (rowL_at hi) ?_ (by rw [hp i hi]; exact hq)
    rw [List.all_eq_true]
    intro x hx
    obtain ⟨j, hj⟩ := List.getElem?_of_mem hx
    have hjl := lt_of_at hj
    rw [List.length_take] at hjl
    rw [List.getElem?_take_of_lt (by omega)] at hj
    obtain ⟨hjn, rfl⟩ := rowL_val hj
    rw [hp j hjn]
    cases h2 : thoseP n B j
    · rfl
    · have := hu i j hi hjn hq h2
      omega
  · have hno : ∀ j, j < n → thoseP n B j = false := fun j hj => by
      cases h : thoseP n B j
      · rfl
      · exact absurd ⟨j, hj, h⟩ hex
    rw [upL_none hno]
    refine findI_none ?_
    rw [List.all_eq_true]
    intro x hx
    obtain ⟨j, hj⟩ := List.getElem?_of_mem hx
    obtain ⟨hjn, rfl⟩ := rowL_val hj
    rw [hp j hjn, hno j hjn]; rfl

set_option maxRecDepth 100000 in
theorem bt_anti (vs : List Vt) (i j : Nat) (h : bt vs i j = true) : bt vs j i = false := by
  simp only [bt, beatsV, decide_eq_true_eq, decide_eq_false_iff_not] at *; omega

end Go.Proofs.Ytacmabdeocmheaa
