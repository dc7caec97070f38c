/- Eliminations, as lists: who goes next, and in which order all go. -/
import Derived.Test.YtacmabdeocmheaaLast
import Derived.Test.YtacmabdeocmheaaWth
namespace Go.Proofs.Ytacmabdeocmheaa
open Go.RowKit

/-- The last of those with the least worth, -1 if there is none. -/
def pickV (f : Int → Int) (xs : List Int) : Int := xs.foldl (fun cur x => if cur < 0 ∨ f x ≤ f cur then x else cur) (-1)
set_option maxRecDepth 100000 in
theorem pickV_nil (f : Int → Int) : pickV f [] = -1 := rfl
set_option maxRecDepth 100000 in
theorem pickV_snoc (f : Int → Int) (xs : List Int) (x : Int) : pickV f (xs ++ [x]) = if pickV f xs < 0 ∨ f x ≤ f (pickV f xs) then x else pickV f xs := by
  unfold pickV; rw [List.foldl_append]; rfl
set_option maxRecDepth 100000 in
theorem foldl_pick (f : Int → Int) : ∀ (xs : List Int) (cur : Int), xs.foldl (fun cur x => if cur < 0 ∨ f x ≤ f cur then x else cur) cur = cur ∨ xs.foldl (fun cur x => if cur < 0 ∨ f x ≤ f cur then x else cur) cur ∈ xs
  | [], cur => .inl rfl
  | x :: xs, cur => by
    rw [List.foldl_cons]
    rcases foldl_pick f xs (if cur < 0 ∨ f x ≤ f cur then x else cur) with h | h
    · rw [h]
      split
      · exact .inr (by simp)
      · exact .inl rfl
    · exact .inr (List.mem_cons_of_mem _ h)
set_option maxRecDepth 100000 in
theorem pickV_mem {f : Int → Int} {xs : List Int} (h : xs ≠ []) : pickV f xs ∈ xs := by
  cases xs with
  | nil => exact absurd rfl h
  | cons x xs =>
    unfold pickV
    rw [List.foldl_cons, if_pos (.inl (by decide))]
    rcases foldl_pick f xs x with h | h
    · rw [h]; simp
    · exact List.mem_cons_of_mem _ h
set_option maxRecDepth 100000 in
theorem erase_filter : ∀ {xs : List Int} {i : Nat} {x : Int}, xs.Nodup → xs[i]? = some x → xs.eraseIdx i = xs.filter (fun y => !(y == x))
  | [], _, _, _, h => by simp at h
  | y :: ys, 0, x, hd, h => by
    simp at h
    subst h
    rw [List.nodup_cons] at hd
    have : ys.filter (fun z => !(z == y)) = ys := List.filter_eq_self.2 (fun z hz => by
      simp only [Bool.not_eq_true', beq_eq_false_iff_ne]
      rintro rfl
      exact hd.1 hz)
    simp [this]
  | y :: ys, i + 1, x, hd, h => by
    rw [List.nodup_cons] at hd
    simp only [List.getElem?_cons_succ] at h
    have hne : y ≠ x := by rintro rfl; exact hd.1 (List.mem_of_getElem? h)
    have hb : (y == x) = false := by simpa using hne
    rw [List.eraseIdx_cons_succ, erase_filter hd.2 h, List.filter_cons, hb]
    rfl
/-- Candidates that are not in a list. -/
def notIn (out : List Int) (i : Nat) : Bool := !hasI out (i : Int)
def leftL (n : Nat) (out : List Int) : List Int := upL n (notIn out)
set_option maxRecDepth 100000 in
theorem hasI_iff {xs : List Int} {x : Int} : hasI xs x = true ↔ x ∈ xs := by unfold hasI; simp
set_option maxRecDepth 100000 in
theorem upL_mem {n : Nat} {q : Nat → Bool} {x : Int} : x ∈ upL n q ↔ ∃ i : Nat, i < n ∧ q i = true ∧ x = i := by
  unfold upL
  simp only [List.mem_map, List.mem_filter, List.mem_range]
  constructor
  · rintro ⟨i, ⟨h1, h2⟩, rfl⟩; exact ⟨i, h1, h2, rfl⟩
  · rintro ⟨i, h1, h2, rfl⟩; exact ⟨i, ⟨h1, h2⟩, rfl⟩
set_option maxRecDepth 100000 in
theorem upL_nodup (n : Nat) (q : Nat → Bool) : (upL n q).Nodup := by
  unfold upL
  refine List.Pairwise.map _ (fun a b h => ?_) (List.Pairwise.filter _ List.nodup_range)
  intro e
  have e' : (a : Int) = (b : Int) := e
  exact h (by omega)
set_option maxRecDepth 100000 in
theorem leftL_mem {n : Nat} {out : List Int} {x : Int} : x ∈ leftL n out ↔ ∃ i : Nat, i < n ∧ (i : Int) ∉ out ∧ x = i := by
  unfold leftL
  rw [upL_mem]
  constructor
  · rintro ⟨i, h1, h2, h3⟩
    refine ⟨i, h1, fun h => ?_, h3⟩
    rw [notIn, hasI_iff.2 h] at h2; cases h2
  · rintro ⟨i, h1, h2, h3⟩
    refine ⟨i, h1, ?_, h3⟩
    unfold notIn
    cases h : hasI out (i : Int)
    · rfl
    · exact absurd (hasI_iff.1 h) h2
set_option maxRecDepth 100000 in
theorem leftL_pos {n : Nat} {out : List Int} {x : Int} (h : x ∈ leftL n out) : 0 ≤ x := by obtain ⟨i, _, _, rfl⟩ := leftL_mem.1 h; omega
set_option maxRecDepth 100000 in
/-- One more has gone. -/
theorem leftL_erase {n k : Nat} {out : List Int} {x : Int} (h : (leftL n out)[k]? = some x) : (leftL n out).eraseIdx k = leftL n (out ++ [x]) := by
  rw [erase_filter (show (leftL n out).Nodup from upL_nodup n (notIn out)) h]
  unfold leftL upL
  rw [List.filter_map, List.filter_filter]
  congr 1
  refine List.filter_congr (fun i _ => ?_)
  rw [Bool.eq_iff_iff]
  have e : hasI (out ++ [x]) (i : Int) = true ↔ hasI out (i : Int) = true ∨ (i : Int) = x := by
    rw [hasI_iff, hasI_iff]; simp
  unfold notIn
  simp only [Function.comp, Bool.and_eq_true, Bool.not_eq_true', beq_eq_false_iff_ne]
  constructor
  · rintro ⟨h1, h2⟩
    cases h3 : hasI (out ++ [x]) (i : Int)
    · rfl
    · rcases e.1 h3 with h4 | h4
      · rw [h2] at h4; cases h4
      · exact absurd h4 h1
  · intro h3
    refine ⟨fun h4 => ?_, ?_⟩
    · rw [e.2 (.inr h4)] at h3; cases h3
    · cases h5 : hasI out (i : Int)
      · rfl
      · rw [e.2 (.inl h5)] at h3; cases h3
set_option maxRecDepth 100000 in
theorem leftL_len {n : Nat} {out : List Int} : (leftL n out).length ≤ n := upL_len _ _

/-- The first k that are eliminated, by the worth W. -/
def elimL (n : Nat) (W : List Int → Int → Int) : Nat → List Int
  | 0 => []
  | k + 1 => elimL n W k ++ [pickV (W (leftL n (elimL n W k))) (leftL n (elimL n W k))]
set_option maxRecDepth 100000 in
theorem elimL_len (n : Nat) (W : List Int → Int → Int) : ∀ k, (elimL n W k).length = k
  | 0 => rfl
  | k + 1 => by rw [elimL, List.length_append, elimL_len n W k]; rfl
set_option maxRecDepth 100000 in
theorem leftL_nil (n : Nat) : leftL n [] = upL n (fun _ => true) := upL_congr (fun i _ => by simp [notIn, hasI])
set_option maxRecDepth 100000 in
theorem upL_true_len : ∀ n, (upL n (fun _ => true)).length = n
  | 0 => rfl
  | n + 1 => by rw [upL_succ, List.length_append, upL_true_len n]; rfl
set_option maxRecDepth 100000 in
theorem leftL_elim {n : Nat} (W : List Int → Int → Int) : ∀ k, k ≤ n → (leftL n (elimL n W k)).length = n - k
  | 0, _ => by rw [elimL, leftL_nil, upL_true_len]; rfl
  | k + 1, hk => by
    have ih := leftL_elim (n := n) W k (by omega)
    have hne : leftL n (elimL n W k) ≠ [] := fun e => by rw [e] at ih; simp at ih; omega
    have hm := pickV_mem (f := W (leftL n (elimL n W k))) hne
    obtain ⟨i, hi⟩ := List.mem_iff_getElem?.1 hm
    have hlt := lt_of_at hi
    rw [elimL, ← leftL_erase hi, List.length_eraseIdx, if_pos hlt, ih]
    omega

end Go.Proofs.Ytacmabdeocmheaa
