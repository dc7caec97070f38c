/- What FnRules says of a profile (plain law). -/
import Derived.Test.YtilcdnkkabmbfaaGreatMod
namespace Go.Proofs.YtilcdnkkabmbfaaGreat
open Go.RowKit

set_option maxRecDepth 100000 in
theorem upL_up (n : Nat) (q : Nat → Bool) : (upL n q).Pairwise (· < ·) := by
  unfold upL
  refine List.Pairwise.map _ (fun a b h => ?_) (List.Pairwise.filter _ List.pairwise_lt_range)
  show (a : Int) < (b : Int)
  omega
set_option maxRecDepth 100000 in
theorem one_up {n a : Nat} (ha : a < n) : ∃ q, [(a : Int)] = upL n q := ⟨fun i => decide (i = a), (upL_one ha (by simp) (fun j _ h => by simpa using h)).symm⟩
set_option maxRecDepth 100000 in
theorem best_up {n : Nat} (f : Nat → Int) : ∃ q, bestL (rowL n f) = upL n q := ⟨isMax (rowL n f) (maxL (rowL n f)), by unfold bestL; rw [rowL_len]⟩
set_option maxRecDepth 100000 in
/-- The winners stand in ascending order. -/
theorem win_up {rule : Int} {n : Nat} {vs : List Vt} (h0 : profOk n vs = true) (r1 : 1 ≤ rule) (r2 : rule ≤ 13) : ∃ q, winL rule n vs = upL n q := by
  obtain ⟨a, ha, r, e⟩ := win_some h0 r1 r2
  have one : ∀ {xs : List Int}, xs = (a : Int) :: r → xs.length = 1 → ∃ q, xs = upL n q := fun {xs} h hl => by
    rw [h, List.length_cons] at hl
    have : r = [] := List.length_eq_zero_iff.1 (by omega)
    rw [h, this]
    exact one_up ha
  have hr : rule = 1 ∨ rule = 2 ∨ rule = 3 ∨ rule = 4 ∨ rule = 5 ∨ rule = 6 ∨ rule = 7 ∨ rule = 8 ∨ rule = 9 ∨ rule = 10 ∨ rule = 11 ∨ rule = 12 ∨ rule = 13 := by omega
  rcases hr with rfl | rfl | rfl | rfl | rfl | rfl | rfl | rfl | rfl | rfl | rfl | rfl | rfl
  · exact best_up _
  · exact best_up _
  · exact best_up _
  · show ∃ q, bestL (copeO n vs) = upL n q
    unfold copeO
    rw [if_pos h0, Int.toNat_natCast]
    exact best_up _
  · show ∃ q, bestL (maxiO n vs) = upL n q
    unfold maxiO
    rw [if_pos h0, Int.toNat_natCast]
    exact best_up _
  · exact one e rfl
  · exact one e rfl
  · exact one e rfl
  · exact one e rfl
  · exact one e rfl
  · show ∃ q, schO n vs = upL n q
    unfold schO thoseO
    rw [if_pos h0, Int.toNat_natCast]
    exact ⟨_, rfl⟩
  · refine one e ?_
    have h1 : (winL 12 n vs).length ≤ 1 := by
      show ((prkO n vs).take 1).length ≤ 1
      rw [List.length_take]; omega
    have h2 := congrArg List.length e
    rw [List.length_cons] at h2
    omega
  · refine one e ?_
    have h1 : (winL 13 n vs).length ≤ 1 := by
      show ((kemO n vs).take 1).length ≤ 1
      rw [List.length_take]; omega
    have h2 := congrArg List.length e
    rw [List.length_cons] at h2
    omega
set_option maxRecDepth 100000 in
theorem up_at {n : Nat} {q : Nat → Bool} {i : Nat} {x : Int} (h : (upL n q)[i]? = some x) : 0 ≤ x ∧ x < n := by
  obtain ⟨k, hk, _, e⟩ := upL_mem.1 (List.mem_of_getElem? h)
  omega
set_option maxRecDepth 100000 in
theorem up_lt {n : Nat} {q : Nat → Bool} {i : Nat} {x y : Int} (hx : (upL n q)[i]? = some x) (hy : (upL n q)[i + 1]? = some y) : x < y := by
  have l1 := lt_of_at hx
  have l2 := lt_of_at hy
  have := List.pairwise_iff_getElem.1 (upL_up n q) i (i + 1) l1 l2 (by omega)
  rw [List.getElem?_eq_getElem l1] at hx
  rw [List.getElem?_eq_getElem l2] at hy
  injection hx with hx
  injection hy with hy
  rw [← hx, ← hy]
  exact this

/-- How many rules there are by which one of the first k candidates wins. -/
noncomputable def rulT (n : Nat) (vs : List Vt) : Nat → Nat
  | 0 => 0
  | k + 1 => rulT n vs k + (rulO n vs k).length
set_option maxRecDepth 100000 in
theorem rulL_cnt (sz : Int) (vs : List Vt) (a : Int) (m : Nat) : (rulL sz vs a m).length = cntN m (fun i => decide (winB ((i : Int) + 1) sz vs = a)) := by
  unfold rulL cntN
  rw [List.length_map, List.countP_eq_length_filter]
set_option maxRecDepth 100000 in
theorem cnt_parts {f : Nat → Int} {n : Nat} : ∀ {m : Nat}, (∀ i, i < m → 0 ≤ f i ∧ f i < n) → ∀ T : Nat → Nat, T 0 = 0 → (∀ k, T (k + 1) = T k + cntN m (fun i => decide (f i = (k : Int)))) → T n = m := by
  intro m h T h0 hs
  have key : ∀ k, T k = cntN m (fun i => decide (f i < (k : Int))) := by
    intro k
    induction k with
    | zero =>
      rw [h0]
      refine (cntN_none.2 (allN_t fun i hi => ?_)).symm
      have := h i hi
      simp; omega
    | succ k ih =>
      rw [hs, ih]
      have : ∀ m', cntN m' (fun i => decide (f i < (k : Int))) + cntN m' (fun i => decide (f i = (k : Int))) = cntN m' (fun i => decide (f i < ((k + 1 : Nat) : Int))) := by
        intro m'
        induction m' with
        | zero => rfl
        | succ m' ih2 =>
          rw [cntN_succ, cntN_succ, cntN_succ, ← ih2]
          by_cases h1 : f m' < (k : Int)
          · have h2 : ¬ f m' = (k : Int) := by omega
            have h3 : f m' < ((k + 1 : Nat) : Int) := by omega
            simp only [h1, h2, h3, decide_true, decide_false, if_true, Bool.false_eq_true, if_false]
            omega
          · by_cases h2 : f m' = (k : Int)
            · simp only [h2, decide_true, if_true]
              have h4 : (k : Int) < ((k + 1 : Nat) : Int) := by omega
              simp only [Int.lt_irrefl, h4, decide_true, decide_false, if_true, Bool.false_eq_true, if_false]
              omega
            · have h3 : ¬ f m' < ((k + 1 : Nat) : Int) := by omega
              simp only [h1, h2, h3, decide_false, Bool.false_eq_true, if_false]
              omega
      exact this m
  rw [key n]
  exact cntN_all.2 (allN_t fun i hi => by have := h i hi; simp; omega)
set_option maxRecDepth 100000 in
theorem rulT_all {n : Nat} {vs : List Vt} (h0 : profOk n vs = true) : rulT n vs n = 13 := by
  refine cnt_parts (f := fun i => winB ((i : Int) + 1) n vs) (m := 13) (fun i hi => ?_) (rulT n vs) rfl (fun k => ?_)
  · obtain ⟨a, ha, e⟩ := winB_some (rule := (i : Int) + 1) h0 (by omega) (by omega)
    show 0 ≤ winB ((i : Int) + 1) n vs ∧ winB ((i : Int) + 1) n vs < n
    omega
  · rw [rulT, show (rulO n vs k).length = cntN 13 (fun i => decide (winB ((i : Int) + 1) n vs = (k : Int))) by
      unfold rulO; rw [if_pos h0, rulL_cnt]]
set_option maxRecDepth 100000 in
theorem rulT_le (n : Nat) (vs : List Vt) : ∀ k, rulT n vs k ≤ 13 * k
  | 0 => Nat.le_refl _
  | k + 1 => by
    have := rulT_le n vs k
    have := rulO_len n vs k
    rw [rulT]; omega
set_option maxRecDepth 100000 in
theorem rul_at {n : Nat} {vs : List Vt} {a : Int} {j : Nat} {r : Int} (h : (rulO n vs a)[j]? = some r) : 1 ≤ r ∧ r ≤ 13 ∧ winB r n vs = a := by
  have hm := List.mem_of_getElem? h
  unfold rulO at hm
  split at hm
  · unfold rulL at hm
    obtain ⟨i, hi, rfl⟩ := List.mem_map.1 hm
    rw [List.mem_filter, List.mem_range] at hi
    have := hi.2
    simp only [decide_eq_true_eq] at this
    exact ⟨by omega, by omega, this⟩
  · simp at hm
set_option maxRecDepth 100000 in
/-- The winners of a rule: the first of them is the winner. -/
theorem win_headB {rule : Int} {n : Nat} {vs : List Vt} (h0 : profOk n vs = true) (r1 : 1 ≤ rule) (r2 : rule ≤ 13) : ∃ a : Nat, a < n ∧ winB rule n vs = a ∧ 1 ≤ (winO rule n vs).length ∧ (winO rule n vs)[0]? = some (a : Int) := by
  obtain ⟨a, ha, r, e⟩ := win_some h0 r1 r2
  have e2 : winO rule n vs = (a : Int) :: r := by rw [winO_eq h0, e]
  exact ⟨a, ha, by unfold winB; rw [e2]; rfl, by rw [e2]; simp, by rw [e2]; rfl⟩
set_option maxRecDepth 100000 in
/-- A spoiler: one without which another one wins. -/
theorem spo_cases (rule : Int) {n : Nat} {vs : List Vt} (h0 : profOk n vs = true) (r1 : 1 ≤ rule) (r2 : rule ≤ 13) : spoO rule n vs = -1 ∨ ∃ x : Nat, x < n ∧ 2 ≤ n ∧ spoO rule n vs = x ∧ winB rule n vs ≠ x ∧ winB rule ((n : Int) - 1) (mapV (dropL x) vs) ≠ (if (x : Int) < winB rule n vs then winB rule n vs - 1 else winB rule n vs) := by
  obtain ⟨a, ha, ea⟩ := winB_some h0 r1 r2
  unfold spoO
  rw [if_neg (by rw [ea]; omega), Int.toNat_natCast]
  unfold firstN
  cases h : (List.range n).find? (spoQ rule n vs (winB rule n vs)) with
  | none => exact .inl rfl
  | some x =>
    have hx := List.mem_range.1 (List.mem_of_find?_eq_some h)
    have hq := List.find?_some h
    unfold spoQ at hq
    simp only [Bool.and_eq_true, Bool.not_eq_true', beq_eq_false_iff_ne] at hq
    refine .inr ⟨x, hx, ?_, rfl, fun e => hq.1 e.symm, hq.2⟩
    by_cases h1 : n = 1
    · exfalso
      apply hq.1
      rw [ea]
      omega
    · omega

end Go.Proofs.YtilcdnkkabmbfaaGreat
