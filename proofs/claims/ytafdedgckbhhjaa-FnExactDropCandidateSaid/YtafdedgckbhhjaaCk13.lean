/- The greatest numbers of a list, and where they stand. All rankings, as the program draws them. Pairs of a list in which something holds for the later and the earlier one, counted in two ways (plain law). -/
import Derived.Test.YtafdedgckbhhjaaCk3
import Derived.Test.YtafdedgckbhhjaaCk5
import Derived.Test.YtafdedgckbhhjaaCk12
import Derived.Test.YtafdedgckbhhjaaCk9
import Derived.Test.YtafdedgckbhhjaaCk7
namespace Go.Proofs.Ytafdedgckbhhjaa
open Go.RowKit

def maxL : List Int → Int
  | [] => 0
  | x :: xs => xs.foldl max x
set_option maxRecDepth 100000 in
theorem maxL_snoc {ys : List Int} (x : Int) (h : ys ≠ []) : maxL (ys ++ [x]) = max (maxL ys) x := by
  cases ys with
  | nil => exact absurd rfl h
  | cons y ys => simp [maxL]
set_option maxRecDepth 100000 in
theorem maxL_at {xs : List Int} {k : Nat} {x : Int} (h : xs[k]? = some x) (hk : 1 ≤ k) : maxL (xs.take (k + 1)) = max (maxL (xs.take k)) x := by
  rw [take_at h]
  exact maxL_snoc x (fun e => by
    have := lt_of_at h
    have h2 : (xs.take k).length = 0 := by rw [e]; rfl
    rw [List.length_take] at h2; omega)
set_option maxRecDepth 100000 in
theorem foldl_ge (xs : List Int) : ∀ x, x ≤ xs.foldl max x ∧ ∀ y ∈ xs, y ≤ xs.foldl max x := by
  induction xs with
  | nil => intro x; simp
  | cons z xs ih =>
    intro x
    have h := ih (max x z)
    simp only [List.foldl_cons]
    refine ⟨by omega, fun y hy => ?_⟩
    rcases List.mem_cons.1 hy with rfl | hy
    · omega
    · exact h.2 y hy
set_option maxRecDepth 100000 in
theorem maxL_ge {xs : List Int} {x : Int} (h : x ∈ xs) : x ≤ maxL xs := by
  cases xs with
  | nil => cases h
  | cons z xs =>
    rcases List.mem_cons.1 h with rfl | h
    · exact (foldl_ge xs x).1
    · exact (foldl_ge xs z).2 x h
set_option maxRecDepth 100000 in
theorem foldl_mem (xs : List Int) : ∀ x, xs.foldl max x = x ∨ xs.foldl max x ∈ xs := by
  induction xs with
  | nil => intro x; exact .inl rfl
  | cons z xs ih =>
    intro x
    simp only [List.foldl_cons]
    rcases ih (max x z) with h | h
    · rw [h]
      by_cases e : x ≤ z
      · right; rw [show max x z = z by omega]; simp
      · left; omega
    · right; exact List.mem_cons_of_mem _ h
set_option maxRecDepth 100000 in
theorem maxL_mem {xs : List Int} (h : xs ≠ []) : maxL xs ∈ xs := by
  cases xs with
  | nil => exact absurd rfl h
  | cons z xs =>
    rcases foldl_mem xs z with h | h
    · show xs.foldl max z ∈ _
      rw [h]; simp
    · exact List.mem_cons_of_mem _ h

def isMax (xs : List Int) (m : Int) (i : Nat) : Bool := decide (xs[i]? = some m)
def bestL (xs : List Int) : List Int := upL xs.length (isMax xs (maxL xs))
/-- The best of the first k. -/
def bestT (xs : List Int) (k : Nat) : List Int := upL k (isMax xs (maxL (xs.take k)))
set_option maxRecDepth 100000 in
theorem bestT_all (xs : List Int) : bestT xs xs.length = bestL xs := by unfold bestT bestL; rw [List.take_length]
set_option maxRecDepth 100000 in
theorem bestT_len (xs : List Int) (k : Nat) : (bestT xs k).length ≤ k := upL_len _ _
set_option maxRecDepth 100000 in
theorem upL_none' {n : Nat} {q : Nat → Bool} (h : ∀ j, j < n → q j = false) : upL n q = [] := by
  unfold upL
  rw [List.map_eq_nil_iff, List.filter_eq_nil_iff]
  intro x hx
  rw [h x (List.mem_range.1 hx)]; simp
set_option maxRecDepth 100000 in
theorem bestT_new {xs : List Int} {k : Nat} {x : Int} (hx : xs[k]? = some x) (h : k = 0 ∨ maxL (xs.take k) < x) : bestT xs (k + 1) = [(k : Int)] := by
  have hm : maxL (xs.take (k + 1)) = x := by
    rcases h with rfl | h
    · rw [take_at hx]; simp [maxL]
    · by_cases hk : k = 0
      · subst hk; rw [take_at hx]; simp [maxL]
      · rw [maxL_at hx (by omega)]; omega
  unfold bestT
  rw [hm, upL_succ, upL_none' (fun j hj => ?_)]
  · simp [isMax, hx]
  · unfold isMax
    rw [decide_eq_false_iff_not]
    intro e
    have h1 : x ∈ xs.take k := by rw [List.mem_iff_getElem?]; exact ⟨j, by rw [List.getElem?_take_of_lt hj]; exact e⟩
    have h2 := maxL_ge h1
    omega
set_option maxRecDepth 100000 in
theorem bestT_tie {xs : List Int} {k : Nat} {x : Int} (hx : xs[k]? = some x) (hk : 1 ≤ k) (h : x = maxL (xs.take k)) : bestT xs (k + 1) = bestT xs k ++ [(k : Int)] := by
  have hm : maxL (xs.take (k + 1)) = maxL (xs.take k) := by rw [maxL_at hx hk]; omega
  unfold bestT
  rw [hm, upL_succ]
  simp [isMax, hx, h]
set_option maxRecDepth 100000 in
theorem bestT_not {xs : List Int} {k : Nat} {x : Int} (hx : xs[k]? = some x) (hk : 1 ≤ k) (h : x < maxL (xs.take k)) : bestT xs (k + 1) = bestT xs k := by
  have hm : maxL (xs.take (k + 1)) = maxL (xs.take k) := by rw [maxL_at hx hk]; omega
  have hne : ¬ x = maxL (xs.take k) := by omega
  unfold bestT
  rw [hm, upL_succ]
  simp [isMax, hx, hne]
set_option maxRecDepth 100000 in
theorem bestT_head {xs : List Int} {k : Nat} (hk : 1 ≤ k) (hl : k ≤ xs.length) : ∃ (i : Nat) (r : List Int), bestT xs k = (i : Int) :: r ∧ xs[i]? = some (maxL (xs.take k)) ∧ i < k ∧ ∀ j, j < i → xs[j]? ≠ some (maxL (xs.take k)) := by
  have hne : xs.take k ≠ [] := fun e => by
    have h2 : (xs.take k).length = 0 := by rw [e]; rfl
    rw [List.length_take] at h2; omega
  obtain ⟨i, hi⟩ := List.mem_iff_getElem?.1 (maxL_mem hne)
  have hik : i < k := by have := lt_of_at hi; rw [List.length_take] at this; omega
  rw [List.getElem?_take_of_lt hik] at hi
  have hq : isMax xs (maxL (xs.take k)) i = true := by simp [isMax, hi]
  unfold bestT
  generalize maxL (xs.take k) = m at hi hq ⊢
  clear hne hk hl
  induction k with
  | zero => omega
  | succ k ih =>
    by_cases hlt : i < k
    · obtain ⟨i0, r, h1, h2⟩ := ih hlt
      rw [upL_succ, h1]
      exact ⟨i0, r ++ _, rfl, h2.1, by omega, h2.2.2⟩
    · have hik : i = k := by omega
      subst hik
      by_cases hall : ∀ j, j < i → isMax xs m j = false
      · rw [upL_succ, upL_none' hall, hq]
        exact ⟨i, [], rfl, hi, by omega, fun j hj e => by have := hall j hj; simp [isMax, e] at this⟩
      · have : ∃ j, j < i ∧ isMax xs m j = true := by
          apply Classical.byContradiction
          intro hno
          exact hall (fun j hj => by
            cases h : isMax xs m j
            · rfl
            · exact absurd ⟨j, hj, h⟩ hno)
        obtain ⟨j, hj, hq2⟩ := this
        have key : ∀ k j, j < k → isMax xs m j = true → ∃ (i : Nat) (r : List Int), upL k (isMax xs m) = (i : Int) :: r ∧ xs[i]? = some m ∧ i < k ∧ ∀ j, j < i → xs[j]? ≠ some m := by
          intro k
          induction k with
          | zero => intro j hj; omega
          | succ k ih2 =>
            intro j hj hqj
            by_cases hex : ∃ j', j' < k ∧ isMax xs m j' = true
            · obtain ⟨j', hj', hq'⟩ := hex
              obtain ⟨i0, r, h1, h2, h3, h4⟩ := ih2 j' hj' hq'
              rw [upL_succ, h1]
              exact ⟨i0, r ++ _, rfl, h2, by omega, h4⟩
            · have hno : ∀ j', j' < k → isMax xs m j' = false := fun j' hj' => by
                cases h : isMax xs m j'
                · rfl
                · exact absurd ⟨j', hj', h⟩ hex
              have hjk : j = k := by
                rcases Nat.lt_or_ge j k with h | h
                · rw [hno j h] at hqj; cases hqj
                · omega
              subst hjk
              rw [upL_succ, upL_none' hno, hqj]
              exact ⟨j, [], rfl, by simpa [isMax] using hqj, by omega, fun j' hj' e => by have := hno j' hj'; simp [isMax, e] at this⟩
        exact key (i + 1) j (by omega) hq2

set_option maxRecDepth 100000 in
theorem OwnI.lit1 (w : World) (y : Int) : OwnI (w.alloc (.cells #[.int .i64 y] 3)) w.heap.size (.slice (some ⟨w.heap.size, 0, none⟩) 1 1) [y] :=
  ⟨rfl, .inr ⟨w.heap.size, 1, #[.int .i64 y], rfl, Nat.le_refl _, heap_alloc_new _ _, Nat.le_refl _, by simp [maxLen], rfl, rfl⟩⟩
set_option maxRecDepth 100000 in
theorem max_if (x y : Int) : (if x < y then y else x) = max x y := by split <;> omega
set_option maxRecDepth 100000 in
theorem max_if' (x y : Int) : (if y < x then x else y) = max x y := by split <;> omega

set_option maxRecDepth 100000 in
theorem OwnSS.lit1 (w : World) (u : Value) (xs : List Int) (hu : OwnI w w.heap.size u xs) (hn : u.ownBlock = none) : OwnSS (w.alloc (.cells #[u] 42)) w.heap.size (.slice (some ⟨w.heap.size, 0, none⟩) 1 1) [xs] := by
  refine ⟨[u], ⟨rfl, .inr ⟨w.heap.size, 1, #[u], rfl, Nat.le_refl _, heap_alloc_new _ _, Nat.le_refl _, by simp [maxLen], rfl, rfl⟩⟩, rfl, fun j ys h => ?_, fun i j z z' k hne hz hz' hk => ?_⟩
  · have : j = 0 := by
      have h2 := lt_of_at h
      rw [List.length_singleton] at h2; omega
    subst this
    simp at h
    subst h
    exact ⟨u, rfl, hu.ext (Ext.new _ _)⟩
  · have : i = 0 := by
      have h2 := lt_of_at hz
      rw [List.length_singleton] at h2; omega
    subst this
    simp at hz
    subst hz
    rw [hn] at hk; cases hk
set_option maxRecDepth 100000 in
theorem ordL_le : ∀ (k : Nat) (s : List Int), s.length = k → k ≤ 5 → (ordL k s).length ≤ 5 ^ k
  | 0, s, _, _ => by simp [ordL]
  | k + 1, s, hs, h5 => by
    have key : ∀ j, j ≤ s.length → ((List.range j).flatMap (fun i => (ordL k (s.eraseIdx i)).map (fun r => s.getD i 0 :: r))).length ≤ j * 5 ^ k := by
      intro j
      induction j with
      | zero => simp
      | succ j ih =>
        intro hj
        have h1 := ordL_le k (s.eraseIdx j) (by rw [List.length_eraseIdx, if_pos (by omega)]; omega) (by omega)
        have h2 := ih (by omega)
        rw [List.range_succ, List.flatMap_append, List.length_append, Nat.succ_mul]
        simp only [List.flatMap_cons, List.flatMap_nil, List.append_nil, List.length_map]
        omega
    have h1 := key s.length (Nat.le_refl _)
    have h2 : s.length * 5 ^ k ≤ 5 * 5 ^ k := Nat.mul_le_mul_right _ (by omega)
    rw [Nat.pow_succ, Nat.mul_comm]
    unfold ordL
    omega
/-- The orders that have been drawn when element j is next. -/
def ordTo (k : Nat) (s : List Int) (j : Nat) : List (List Int) := (List.range j).flatMap (fun i => (ordL k (s.eraseIdx i)).map (fun r => s.getD i 0 :: r))
def ordIn (k : Nat) (s : List Int) (j m : Nat) : List (List Int) := ordTo k s j ++ ((ordL k (s.eraseIdx j)).take m).map (fun r => s.getD j 0 :: r)
set_option maxRecDepth 100000 in
theorem ordTo_succ (k : Nat) (s : List Int) (j : Nat) : ordTo k s (j + 1) = ordIn k s j (ordL k (s.eraseIdx j)).length := by
  unfold ordTo ordIn
  rw [List.range_succ, List.flatMap_append, List.take_length]
  simp [ordTo]
set_option maxRecDepth 100000 in
theorem ordIn_succ {k : Nat} {s : List Int} {j m : Nat} {r : List Int} (h : (ordL k (s.eraseIdx j))[m]? = some r) : ordIn k s j (m + 1) = ordIn k s j m ++ [s.getD j 0 :: r] := by
  unfold ordIn
  rw [take_at h, List.map_append, List.append_assoc]; rfl
set_option maxRecDepth 100000 in
theorem ordTo_le {k : Nat} {s : List Int} (hs : s.length = k + 1) (h5 : k ≤ 4) : ∀ j, j ≤ s.length → (ordTo k s j).length ≤ j * 5 ^ k := by
  intro j
  induction j with
  | zero => simp [ordTo]
  | succ j ih =>
    intro hj
    have h1 := ordL_le k (s.eraseIdx j) (by rw [List.length_eraseIdx, if_pos (by omega)]; omega) (by omega)
    have h2 := ih (by omega)
    rw [ordTo_succ, ordIn, List.length_append, Nat.succ_mul]
    simp only [List.length_map, List.take_length]
    omega

/-- Counted from the earlier one. -/
def bkI (q : Int → Int → Bool) : List Int → Nat
  | [] => 0
  | x :: xs => xs.countP (fun y => q y x) + bkI q xs
/-- Counted from the later one. -/
def bkS (q : Int → Int → Bool) (r : List Int) (i : Nat) : Nat := match i with
  | 0 => 0
  | k + 1 => bkS q r k + (r.take k).countP (fun y => q (r.getD k 0) y)
set_option maxRecDepth 100000 in
theorem bkI_snoc (q : Int → Int → Bool) : ∀ (xs : List Int) (y : Int), bkI q (xs ++ [y]) = bkI q xs + xs.countP (fun x => q y x)
  | [], y => by simp [bkI]
  | x :: xs, y => by
    rw [List.cons_append, bkI, bkI_snoc q xs y, bkI, List.countP_append, List.countP_cons]
    simp only [List.countP_cons, List.countP_nil]
    omega
set_option maxRecDepth 100000 in
theorem bkS_bkI (q : Int → Int → Bool) (r : List Int) : ∀ k, k ≤ r.length → bkS q r k = bkI q (r.take k)
  | 0, _ => by simp [bkS, bkI]
  | k + 1, h => by
    obtain ⟨x, hx⟩ := at_of_lt (xs := r) (k := k) (by omega)
    rw [take_at hx, bkI_snoc, bkS, bkS_bkI q r k (by omega)]
    have : r.getD k 0 = x := by simp [List.getD, hx]
    rw [this]
set_option maxRecDepth 100000 in
theorem bkS_all (q : Int → Int → Bool) (r : List Int) : bkS q r r.length = bkI q r := by rw [bkS_bkI q r _ (Nat.le_refl _), List.take_length]
set_option maxRecDepth 100000 in
theorem bkI_bd (q : Int → Int → Bool) : ∀ xs : List Int, bkI q xs ≤ xs.length * xs.length
  | [] => by simp [bkI]
  | x :: xs => by
    have h := bkI_bd q xs
    have h2 := List.countP_le_length (p := fun y => q y x) (l := xs)
    rw [bkI, List.length_cons, Nat.add_mul, Nat.mul_add]
    omega
set_option maxRecDepth 100000 in
theorem bkI_congr {q q' : Int → Int → Bool} : ∀ {xs : List Int}, (∀ x ∈ xs, ∀ y ∈ xs, q x y = q' x y) → bkI q xs = bkI q' xs
  | [], _ => rfl
  | x :: xs, h => by
    rw [bkI, bkI, bkI_congr (xs := xs) (fun a ha b hb => h a (by simp [ha]) b (by simp [hb]))]
    congr 1
    exact List.countP_congr (fun y hy => by rw [h y (by simp [hy]) x (by simp)])
set_option maxRecDepth 100000 in
theorem bkI_zero {q : Int → Int → Bool} : ∀ {xs : List Int}, bkI q xs = 0 ↔ xs.Pairwise (fun x y => q y x = false)
  | [] => by simp [bkI]
  | x :: xs => by
    rw [bkI, List.pairwise_cons, ← bkI_zero (q := q) (xs := xs)]
    constructor
    · intro h
      have h1 : xs.countP (fun y => q y x) = 0 := by omega
      rw [List.countP_eq_zero] at h1
      exact ⟨fun y hy => by simpa using h1 y hy, by omega⟩
    · intro ⟨h1, h2⟩
      have : xs.countP (fun y => q y x) = 0 := by
        rw [List.countP_eq_zero]
        intro y hy
        rw [h1 y hy]; decide
      omega
/-- The part of the count from the earlier ones, up to place i, and in the middle of it. -/
def bkTo (q : Int → Int → Bool) (r : List Int) : Nat → Nat
  | 0 => 0
  | k + 1 => bkTo q r k + (r.drop (k + 1)).countP (fun y => q y (r.getD k 0))
set_option maxRecDepth 100000 in
theorem bkTo_drop (q : Int → Int → Bool) (r : List Int) : ∀ k, k ≤ r.length → bkTo q r k + bkI q (r.drop k) = bkI q r
  | 0, _ => by simp [bkTo]
  | k + 1, h => by
    obtain ⟨x, hx⟩ := at_of_lt (xs := r) (k := k) (by omega)
    have ih := bkTo_drop q r k (by omega)
    have hl := lt_of_at hx
    rw [List.drop_eq_getElem_cons hl, bkI] at ih
    have hg : r.getD k 0 = r[k] := by simp [List.getD, List.getElem?_eq_getElem hl]
    rw [bkTo, hg]
    omega
set_option maxRecDepth 100000 in
theorem bkTo_all (q : Int → Int → Bool) (r : List Int) : bkTo q r r.length = bkI q r := by
  have h := bkTo_drop q r r.length (Nat.le_refl _)
  rw [List.drop_length] at h
  simpa [bkI] using h

end Go.Proofs.Ytafdedgckbhhjaa
