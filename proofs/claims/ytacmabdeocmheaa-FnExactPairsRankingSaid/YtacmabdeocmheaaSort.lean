/- Sorting by insertion, the greatest key first: from the left and from the right (plain law). -/
import Derived.Test.YtacmabdeocmheaaElimP
namespace Go.Proofs.Ytacmabdeocmheaa
open Go.RowKit

/-- x behind all that have a key at least as great, at the front of the list. -/
def insD {α : Type} (f : α → Int) (xs : List α) (a : α) : List α := xs.takeWhile (fun y => decide (f a ≤ f y)) ++ a :: xs.dropWhile (fun y => decide (f a ≤ f y))
def sortD {α : Type} (f : α → Int) (xs : List α) : List α := xs.foldl (insD f) []
set_option maxRecDepth 100000 in
theorem sortD_snoc {α : Type} (f : α → Int) (xs : List α) (a : α) : sortD f (xs ++ [a]) = insD f (sortD f xs) a := by simp [sortD]
set_option maxRecDepth 100000 in
theorem sortD_at {α : Type} {f : α → Int} {xs : List α} {k : Nat} {x : α} (h : xs[k]? = some x) : sortD f (xs.take (k + 1)) = insD f (sortD f (xs.take k)) x := by rw [take_at h, sortD_snoc]
set_option maxRecDepth 100000 in
theorem insD_len {α : Type} (f : α → Int) (xs : List α) (a : α) : (insD f xs a).length = xs.length + 1 := by
  have h : (xs.takeWhile (fun y => decide (f a ≤ f y)) ++ xs.dropWhile (fun y => decide (f a ≤ f y))).length = xs.length := by rw [List.takeWhile_append_dropWhile]
  rw [List.length_append] at h
  unfold insD
  rw [List.length_append, List.length_cons]; omega
set_option maxRecDepth 100000 in
theorem insD_perm {α : Type} (f : α → Int) (xs : List α) (a : α) : (insD f xs a).Perm (a :: xs) := by
  unfold insD
  refine List.perm_middle.trans ?_
  rw [List.takeWhile_append_dropWhile]
set_option maxRecDepth 100000 in
theorem insD_mem {α : Type} {f : α → Int} {xs : List α} {a y : α} : y ∈ insD f xs a ↔ y = a ∨ y ∈ xs := by
  rw [(insD_perm f xs a).mem_iff]; simp
set_option maxRecDepth 100000 in
theorem foldl_ins_perm {α : Type} (f : α → Int) : ∀ (xs acc : List α), (xs.foldl (insD f) acc).Perm (xs ++ acc)
  | [], acc => by simp
  | x :: xs, acc => by
    refine (foldl_ins_perm f xs (insD f acc x)).trans ?_
    refine ((List.Perm.refl xs).append (insD_perm f acc x)).trans ?_
    exact List.perm_middle
set_option maxRecDepth 100000 in
theorem sortD_perm {α : Type} (f : α → Int) (xs : List α) : (sortD f xs).Perm xs := by
  have h := foldl_ins_perm f xs []
  rw [List.append_nil] at h
  exact h
set_option maxRecDepth 100000 in
theorem sortD_len {α : Type} (f : α → Int) (xs : List α) : (sortD f xs).length = xs.length := (sortD_perm f xs).length_eq
set_option maxRecDepth 100000 in
theorem sortD_mem {α : Type} {f : α → Int} {xs : List α} {y : α} : y ∈ sortD f xs ↔ y ∈ xs := (sortD_perm f xs).mem_iff

def DescK {α : Type} (f : α → Int) (xs : List α) : Prop := xs.Pairwise (fun x y => f y ≤ f x)
set_option maxRecDepth 100000 in
theorem takeW_all {α : Type} {p : α → Bool} : ∀ {xs : List α} {y : α}, y ∈ xs.takeWhile p → p y = true
  | [], y, h => by simp at h
  | x :: xs, y, h => by
    rw [List.takeWhile_cons] at h
    split at h
    · rename_i hx
      rcases List.mem_cons.1 h with rfl | h
      · exact hx
      · exact takeW_all h
    · simp at h
set_option maxRecDepth 100000 in
theorem insD_desc {α : Type} {f : α → Int} : ∀ {xs : List α} (a : α), DescK f xs → DescK f (insD f xs a)
  | [], a, _ => by simp [DescK, insD]
  | x :: xs, a, h => by
    unfold DescK at h
    rw [List.pairwise_cons] at h
    have ih : DescK f (insD f xs a) := insD_desc a h.2
    by_cases hx : f a ≤ f x
    · have e : insD f (x :: xs) a = x :: insD f xs a := by simp [insD, hx]
      rw [e]
      unfold DescK
      rw [List.pairwise_cons]
      refine ⟨fun y hy => ?_, ih⟩
      rcases insD_mem.1 hy with rfl | hy
      · exact hx
      · exact h.1 y hy
    · have e : insD f (x :: xs) a = a :: x :: xs := by simp [insD, hx]
      rw [e]
      unfold DescK
      rw [List.pairwise_cons]
      refine ⟨fun y hy => ?_, List.pairwise_cons.2 h⟩
      rcases List.mem_cons.1 hy with rfl | hy
      · omega
      · have := h.1 y hy; omega
set_option maxRecDepth 100000 in
theorem foldl_ins_desc {α : Type} (f : α → Int) : ∀ (xs acc : List α), DescK f acc → DescK f (xs.foldl (insD f) acc)
  | [], _, h => h
  | x :: xs, _, h => foldl_ins_desc f xs _ (insD_desc x h)
set_option maxRecDepth 100000 in
theorem sortD_desc {α : Type} (f : α → Int) (xs : List α) : DescK f (sortD f xs) := foldl_ins_desc f xs [] List.Pairwise.nil

set_option maxRecDepth 100000 in
/-- A place in a descending list with only greater or equal keys before it and only smaller ones from it on is where insertion puts x. -/
theorem insD_place {α : Type} {f : α → Int} {a : α} : ∀ {xs : List α} {j : Nat}, (∀ y ∈ xs.take j, f a ≤ f y) → (∀ y ∈ xs.drop j, f y < f a) → insD f xs a = xs.take j ++ a :: xs.drop j
  | [], j, _, _ => by simp [insD]
  | x :: xs, 0, _, h2 => by
    have hx : ¬ f a ≤ f x := by have := h2 x (by simp); omega
    simp [insD, hx]
  | x :: xs, j + 1, h1, h2 => by
    have hx : f a ≤ f x := h1 x (by simp)
    have ih := insD_place (f := f) (a := a) (xs := xs) (j := j) (fun y hy => h1 y (by simp [hy])) (fun y hy => h2 y (by simpa using hy))
    have e : insD f (x :: xs) a = x :: insD f xs a := by simp [insD, hx]
    rw [e, ih]; simp
set_option maxRecDepth 100000 in
/-- The same where only the neighbour in front is known, the list being in order. -/
theorem insD_stop {α : Type} {f : α → Int} {a : α} {xs : List α} {j : Nat} (hd : DescK f xs) (h1 : j = 0 ∨ ∃ y, xs[j - 1]? = some y ∧ f a ≤ f y) (h2 : ∀ y ∈ xs.drop j, f y < f a) : insD f xs a = xs.take j ++ a :: xs.drop j := by
  refine insD_place (fun y hy => ?_) h2
  rcases h1 with rfl | ⟨z, hz, hle⟩
  · simp at hy
  · obtain ⟨i, hi⟩ := List.mem_iff_getElem?.1 hy
    have hij : i < j := by have := lt_of_at hi; rw [List.length_take] at this; omega
    rw [List.getElem?_take_of_lt hij] at hi
    rcases Nat.lt_or_ge i (j - 1) with hlt | hge
    · have hl1 := lt_of_at hi
      have hl2 := lt_of_at hz
      have := List.pairwise_iff_getElem.1 hd i (j - 1) hl1 hl2 hlt
      rw [List.getElem?_eq_getElem hl1] at hi
      rw [List.getElem?_eq_getElem hl2] at hz
      injection hi with hi
      injection hz with hz
      subst hi
      subst hz
      omega
    · have : i = j - 1 := by omega
      subst this
      rw [hi] at hz
      injection hz with hz
      subst hz
      exact hle
set_option maxRecDepth 100000 in
/-- How many stand in front, counted from the front. -/
theorem insD_count {α : Type} {f : α → Int} {a : α} {xs : List α} {k : Nat} (h1 : ∀ y ∈ xs.take k, f a ≤ f y) (h2 : k = xs.length ∨ ∃ y, xs[k]? = some y ∧ f y < f a) (hd : DescK f xs) : insD f xs a = xs.take k ++ a :: xs.drop k := by
  refine insD_place h1 (fun y hy => ?_)
  rcases h2 with rfl | ⟨z, hz, hlt⟩
  · simp at hy
  · obtain ⟨i, hi⟩ := List.mem_iff_getElem?.1 hy
    rw [List.getElem?_drop] at hi
    rcases Nat.eq_zero_or_pos i with rfl | hpos
    · rw [Nat.add_zero, hz] at hi
      injection hi with hi
      subst hi
      exact hlt
    · have hl1 := lt_of_at hz
      have hl2 := lt_of_at hi
      have := List.pairwise_iff_getElem.1 hd k (k + i) hl1 hl2 (by omega)
      rw [List.getElem?_eq_getElem hl1] at hz
      rw [List.getElem?_eq_getElem hl2] at hi
      injection hi with hi
      injection hz with hz
      subst hi
      subst hz
      omega

end Go.Proofs.Ytacmabdeocmheaa
