/- How many rank a candidate among the first k. Eliminations, as lists: who goes next, and in which order all go. Sorting by insertion, the greatest key first: from the left and from the right (plain law). -/
import Derived.Test.YtkbbcglghfddjaaCf7
import Derived.Test.YtkbbcglghfddjaaCf5
import Derived.Test.YtkbbcglghfddjaaCf6
namespace Go.Proofs.Ytkbbcglghfddjaa
open Go.RowKit

set_option maxRecDepth 100000 in
theorem sumV_nil (p : List Int → Bool) : sumV p [] = 0 := by simp [sumV]
set_option maxRecDepth 100000 in
theorem sumV_cons (p : List Int → Bool) (x : Vt) (vs : List Vt) : sumV p (x :: vs) = (if p x.1 then x.2 else 0) + sumV p vs := by
  unfold sumV
  cases h : p x.1 <;> simp [h]
set_option maxRecDepth 100000 in
theorem sumV_none : ∀ vs : List Vt, sumV (fun _ => false) vs = 0
  | [] => rfl
  | x :: vs => by rw [sumV_cons, sumV_none vs]; simp
set_option maxRecDepth 100000 in
theorem sumV_all : ∀ vs : List Vt, sumV (fun _ => true) vs = (vs.map Prod.snd).sum
  | [] => rfl
  | x :: vs => by rw [sumV_cons, sumV_all vs]; simp
set_option maxRecDepth 100000 in
theorem sumV_congr {p q : List Int → Bool} : ∀ {vs : List Vt}, (∀ x ∈ vs, p x.1 = q x.1) → sumV p vs = sumV q vs
  | [], _ => rfl
  | x :: vs, h => by rw [sumV_cons, sumV_cons, h x (by simp), sumV_congr (fun y hy => h y (by simp [hy]))]
set_option maxRecDepth 100000 in
theorem sumV_add {p q r : List Int → Bool} : ∀ {vs : List Vt}, (∀ x ∈ vs, r x.1 = (p x.1 || q x.1) ∧ (p x.1 && q x.1) = false) → sumV r vs = sumV p vs + sumV q vs
  | [], _ => by simp [sumV]
  | x :: vs, h => by
    obtain ⟨h1, h2⟩ := h x (by simp)
    rw [sumV_cons, sumV_cons, sumV_cons, h1, sumV_add (fun y hy => h y (by simp [hy]))]
    cases hp : p x.1 <;> cases hq : q x.1 <;> simp [hp, hq] at h2 ⊢ <;> omega
set_option maxRecDepth 100000 in
theorem SmallV.tail {sz : Int} {x : Vt} {vs : List Vt} (h : SmallV sz (x :: vs)) : SmallV sz vs := ⟨by have := h.1; simp at this; omega, fun y hy => h.2 y (by simp [hy])⟩

def wthP (a k : Nat) (r : List Int) : Bool := decide (placeI r a < (k : Int))
def wthV (vs : List Vt) (k a : Nat) : Int := sumV (wthP a k) vs
def sumN (f : Nat → Int) : Nat → Int
  | 0 => 0
  | k + 1 => sumN f k + f k
set_option maxRecDepth 100000 in
theorem wth_sum {n a : Nat} {vs : List Vt} (hS : SmallV n vs) (ha : a < n) : ∀ k, sumN (plcV vs a) k = wthV vs k a
  | 0 => by
    unfold sumN wthV
    rw [sumV_congr (q := fun _ => false) (fun x hx => by
      obtain ⟨p, _, hp, _⟩ := place_at (hS.2 x hx).1 ha
      simp [wthP, hp])]
    exact (sumV_none vs).symm
  | k + 1 => by
    unfold sumN
    rw [wth_sum hS ha k]
    unfold wthV plcV
    refine (sumV_add fun x hx => ?_).symm
    obtain ⟨p, _, hp, h1, h2⟩ := place_at (hS.2 x hx).1 ha
    have e : plcP a k x.1 = decide (p = k) := by
      by_cases e : p = k
      · subst e; simp [plcP, h1]
      · simp only [plcP, e, decide_false, beq_eq_false_iff_ne]
        exact fun h3 => e (h2 k h3).symm
    rw [e]
    unfold wthP
    rw [hp]
    by_cases h3 : p = k
    · have h4 : (p : Int) < ((k + 1 : Nat) : Int) := by omega
      have h5 : ¬ (p : Int) < (k : Int) := by omega
      rw [decide_eq_true h4, decide_eq_false h5, decide_eq_true h3]; simp
    · by_cases h4 : (p : Int) < (k : Int)
      · have h5 : (p : Int) < ((k + 1 : Nat) : Int) := by omega
        rw [decide_eq_true h4, decide_eq_true h5, decide_eq_false h3]; simp
      · have h5 : ¬ (p : Int) < ((k + 1 : Nat) : Int) := by omega
        rw [decide_eq_false h4, decide_eq_false h5, decide_eq_false h3]; simp
set_option maxRecDepth 100000 in
theorem sumN_bd {f : Nat → Int} {M : Int} (h : ∀ j, 0 ≤ f j ∧ f j ≤ M) : ∀ k, 0 ≤ sumN f k ∧ sumN f k ≤ M * k
  | 0 => by simp [sumN]
  | k + 1 => by
    have h1 := sumN_bd h k
    have h2 := h k
    unfold sumN
    have : M * ((k + 1 : Nat) : Int) = M * k + M := by rw [Int.natCast_succ, Int.mul_add]; simp
    omega
set_option maxRecDepth 100000 in
theorem wthV_bd {n : Int} {vs : List Vt} (hS : SmallV n vs) (k a : Nat) : 0 ≤ wthV vs k a ∧ wthV vs k a ≤ 24000 := sumV_bd' hS

set_option maxRecDepth 100000 in
/-- A row of a matrix of the call's own. -/
theorem WrSS.at_ {w : World} {B : Nat} {v : Value} {xss : List (List Int)} (h : WrSS w B v xss) {k : Nat} {xs : List Int} (hx : xss[k]? = some xs) :
    ∃ g c a' c', v = .slice (some ⟨g, 0, none⟩) xss.length c ∧ w.cell? ⟨g, k, none⟩ = some (.slice a' xs.length c') ∧ xs.length ≤ c' ∧ RdI w a' xs := by
  obtain ⟨a, c, hv, hc, ho⟩ := h
  obtain ⟨g, us, rfl, hM⟩ := ho (ne_of_at hx)
  have h1 := hM.row k (lt_of_at hx)
  simp only [List.getD, hx, Option.getD_some] at h1
  obtain ⟨a', c', hu, hc', _, hR, _⟩ := h1.val
  exact ⟨g, c, a', c', hv, by rw [hM.outer.cell k (lt_of_at hx), hu], hc', hR⟩

/-- The last of those with the least worth, -1 if there is none. -/
def pickV (f : Int → Int) (xs : List Int) : Int := xs.foldl (fun cur x => if cur < 0 ∨ f x ≤ f cur then x else cur) (-1)
set_option maxRecDepth 100000 in
theorem pickV_nil (f : Int → Int) : pickV f [] = -1 := rfl
set_option maxRecDepth 100000 in
theorem pickV_snoc (f : Int → Int) (xs : List Int) (x : Int) : pickV f (xs ++ [x]) = if pickV f xs < 0 ∨ f x ≤ f (pickV f xs) then x else pickV f xs := by
  unfold pickV; rw [List.foldl_append]; rfl
set_option maxRecDepth 100000 in
theorem foldl_pick (f : Int → Int) : ∀ (xs : List Int) (cur : Int), xs.foldl (fun cur x => if cur < 0 ∨ f x ≤ f cur then x else cur) cur = cur ∨ xs.foldl (fun cur x => if cur < 0 ∨ f x ≤ f cur then x else cur) cur ∈ xs
  | [], cur => .inl rfl
  | x :: xs, cur => by
    rw [List.foldl_cons]
    rcases foldl_pick f xs (if cur < 0 ∨ f x ≤ f cur then x else cur) with h | h
    · rw [h]
      split
      · exact .inr (by simp)
      · exact .inl rfl
    · exact .inr (List.mem_cons_of_mem _ h)
set_option maxRecDepth 100000 in
theorem pickV_mem {f : Int → Int} {xs : List Int} (h : xs ≠ []) : pickV f xs ∈ xs := by
  cases xs with
  | nil => exact absurd rfl h
  | cons x xs =>
    unfold pickV
    rw [List.foldl_cons, if_pos (.inl (by decide))]
    rcases foldl_pick f xs x with h | h
    · rw [h]; simp
    · exact List.mem_cons_of_mem _ h
set_option maxRecDepth 100000 in
theorem erase_filter : ∀ {xs : List Int} {i : Nat} {x : Int}, xs.Nodup → xs[i]? = some x → xs.eraseIdx i = xs.filter (fun y => !(y == x))
  | [], _, _, _, h => by simp at h
  | y :: ys, 0, x, hd, h => by
    simp at h
    subst h
    rw [List.nodup_cons] at hd
    have : ys.filter (fun z => !(z == y)) = ys := List.filter_eq_self.2 (fun z hz => by
      simp only [Bool.not_eq_true', beq_eq_false_iff_ne]
      rintro rfl
      exact hd.1 hz)
    simp [this]
  | y :: ys, i + 1, x, hd, h => by
    rw [List.nodup_cons] at hd
    simp only [List.getElem?_cons_succ] at h
    have hne : y ≠ x := by rintro rfl; exact hd.1 (List.mem_of_getElem? h)
    have hb : (y == x) = false := by simpa using hne
    rw [List.eraseIdx_cons_succ, erase_filter hd.2 h, List.filter_cons, hb]
    rfl
/-- Candidates that are not in a list. -/
def notIn (out : List Int) (i : Nat) : Bool := !hasI out (i : Int)
def leftL (n : Nat) (out : List Int) : List Int := upL n (notIn out)
set_option maxRecDepth 100000 in
theorem hasI_iff {xs : List Int} {x : Int} : hasI xs x = true ↔ x ∈ xs := by unfold hasI; simp
set_option maxRecDepth 100000 in
theorem upL_mem {n : Nat} {q : Nat → Bool} {x : Int} : x ∈ upL n q ↔ ∃ i : Nat, i < n ∧ q i = true ∧ x = i := by
  unfold upL
  simp only [List.mem_map, List.mem_filter, List.mem_range]
  constructor
  · rintro ⟨i, ⟨h1, h2⟩, rfl⟩; exact ⟨i, h1, h2, rfl⟩
  · rintro ⟨i, h1, h2, rfl⟩; exact ⟨i, ⟨h1, h2⟩, rfl⟩
set_option maxRecDepth 100000 in
theorem upL_nodup (n : Nat) (q : Nat → Bool) : (upL n q).Nodup := by
  unfold upL
  refine List.Pairwise.map _ (fun a b h => ?_) (List.Pairwise.filter _ List.nodup_range)
  intro e
  have e' : (a : Int) = (b : Int) := e
  exact h (by omega)
set_option maxRecDepth 100000 in
theorem leftL_mem {n : Nat} {out : List Int} {x : Int} : x ∈ leftL n out ↔ ∃ i : Nat, i < n ∧ (i : Int) ∉ out ∧ x = i := by
  unfold leftL
  rw [upL_mem]
  constructor
  · rintro ⟨i, h1, h2, h3⟩
    refine ⟨i, h1, fun h => ?_, h3⟩
    rw [notIn, hasI_iff.2 h] at h2; cases h2
  · rintro ⟨i, h1, h2, h3⟩
    refine ⟨i, h1, ?_, h3⟩
    unfold notIn
    cases h : hasI out (i : Int)
    · rfl
    · exact absurd (hasI_iff.1 h) h2
set_option maxRecDepth 100000 in
theorem leftL_pos {n : Nat} {out : List Int} {x : Int} (h : x ∈ leftL n out) : 0 ≤ x := by obtain ⟨i, _, _, rfl⟩ := leftL_mem.1 h; omega
set_option maxRecDepth 100000 in
/-- One more has gone. -/
theorem leftL_erase {n k : Nat} {out : List Int} {x : Int} (h : (leftL n out)[k]? = some x) : (leftL n out).eraseIdx k = leftL n (out ++ [x]) := by
  rw [erase_filter (show (leftL n out).Nodup from upL_nodup n (notIn out)) h]
  unfold leftL upL
  rw [List.filter_map, List.filter_filter]
  congr 1
  refine List.filter_congr (fun i _ => ?_)
  rw [Bool.eq_iff_iff]
  have e : hasI (out ++ [x]) (i : Int) = true ↔ hasI out (i : Int) = true ∨ (i : Int) = x := by
    rw [hasI_iff, hasI_iff]; simp
  unfold notIn
  simp only [Function.comp, Bool.and_eq_true, Bool.not_eq_true', beq_eq_false_iff_ne]
  constructor
  · rintro ⟨h1, h2⟩
    cases h3 : hasI (out ++ [x]) (i : Int)
    · rfl
    · rcases e.1 h3 with h4 | h4
      · rw [h2] at h4; cases h4
      · exact absurd h4 h1
  · intro h3
    refine ⟨fun h4 => ?_, ?_⟩
    · rw [e.2 (.inr h4)] at h3; cases h3
    · cases h5 : hasI out (i : Int)
      · rfl
      · rw [e.2 (.inl h5)] at h3; cases h3
set_option maxRecDepth 100000 in
theorem leftL_len {n : Nat} {out : List Int} : (leftL n out).length ≤ n := upL_len _ _

/-- The first k that are eliminated, by the worth W. -/
def elimL (n : Nat) (W : List Int → Int → Int) : Nat → List Int
  | 0 => []
  | k + 1 => elimL n W k ++ [pickV (W (leftL n (elimL n W k))) (leftL n (elimL n W k))]
set_option maxRecDepth 100000 in
theorem elimL_len (n : Nat) (W : List Int → Int → Int) : ∀ k, (elimL n W k).length = k
  | 0 => rfl
  | k + 1 => by rw [elimL, List.length_append, elimL_len n W k]; rfl
set_option maxRecDepth 100000 in
theorem leftL_nil (n : Nat) : leftL n [] = upL n (fun _ => true) := upL_congr (fun i _ => by simp [notIn, hasI])
set_option maxRecDepth 100000 in
theorem upL_true_len : ∀ n, (upL n (fun _ => true)).length = n
  | 0 => rfl
  | n + 1 => by rw [upL_succ, List.length_append, upL_true_len n]; rfl
set_option maxRecDepth 100000 in
theorem leftL_elim {n : Nat} (W : List Int → Int → Int) : ∀ k, k ≤ n → (leftL n (elimL n W k)).length = n - k
  | 0, _ => by rw [elimL, leftL_nil, upL_true_len]; rfl
  | k + 1, hk => by
    have ih := leftL_elim (n := n) W k (by omega)
    have hne : leftL n (elimL n W k) ≠ [] := fun e => by rw [e] at ih; simp at ih; omega
    have hm := pickV_mem (f := W (leftL n (elimL n W k))) hne
    obtain ⟨i, hi⟩ := List.mem_iff_getElem?.1 hm
    have hlt := lt_of_at hi
    rw [elimL, ← leftL_erase hi, List.length_eraseIdx, if_pos hlt, ih]
    omega

/-- x behind all that have a key at least as great, at the front of the list. -/
def insD {α : Type} (f : α → Int) (xs : List α) (a : α) : List α := xs.takeWhile (fun y => decide (f a ≤ f y)) ++ a :: xs.dropWhile (fun y => decide (f a ≤ f y))
def sortD {α : Type} (f : α → Int) (xs : List α) : List α := xs.foldl (insD f) []
set_option maxRecDepth 100000 in
theorem sortD_snoc {α : Type} (f : α → Int) (xs : List α) (a : α) : sortD f (xs ++ [a]) = insD f (sortD f xs) a := by simp [sortD]
set_option maxRecDepth 100000 in
theorem sortD_at {α : Type} {f : α → Int} {xs : List α} {k : Nat} {x : α} (h : xs[k]? = some x) : sortD f (xs.take (k + 1)) = insD f (sortD f (xs.take k)) x := by rw [take_at h, sortD_snoc]
set_option maxRecDepth 100000 in
theorem insD_len {α : Type} (f : α → Int) (xs : List α) (a : α) : (insD f xs a).length = xs.length + 1 := by
  have h : (xs.takeWhile (fun y => decide (f a ≤ f y)) ++ xs.dropWhile (fun y => decide (f a ≤ f y))).length = xs.length := by rw [List.takeWhile_append_dropWhile]
  rw [List.length_append] at h
  unfold insD
  rw [List.length_append, List.length_cons]; omega
set_option maxRecDepth 100000 in
theorem insD_perm {α : Type} (f : α → Int) (xs : List α) (a : α) : (insD f xs a).Perm (a :: xs) := by
  unfold insD
  refine List.perm_middle.trans ?_
  rw [List.takeWhile_append_dropWhile]
set_option maxRecDepth 100000 in
theorem insD_mem {α : Type} {f : α → Int} {xs : List α} {a y : α} : y ∈ insD f xs a ↔ y = a ∨ y ∈ xs := by
  rw [(insD_perm f xs a).mem_iff]; simp
set_option maxRecDepth 100000 in
theorem foldl_ins_perm {α : Type} (f : α → Int) : ∀ (xs acc : List α), (xs.foldl (insD f) acc).Perm (xs ++ acc)
  | [], acc => by simp
  | x :: xs, acc => by
    refine (foldl_ins_perm f xs (insD f acc x)).trans ?_
    refine ((List.Perm.refl xs).append (insD_perm f acc x)).trans ?_
    exact List.perm_middle
set_option maxRecDepth 100000 in
theorem sortD_perm {α : Type} (f : α → Int) (xs : List α) : (sortD f xs).Perm xs := by
  have h := foldl_ins_perm f xs []
  rw [List.append_nil] at h
  exact h
set_option maxRecDepth 100000 in
theorem sortD_len {α : Type} (f : α → Int) (xs : List α) : (sortD f xs).length = xs.length := (sortD_perm f xs).length_eq
set_option maxRecDepth 100000 in
theorem sortD_mem {α : Type} {f : α → Int} {xs : List α} {y : α} : y ∈ sortD f xs ↔ y ∈ xs := (sortD_perm f xs).mem_iff

def DescK {α : Type} (f : α → Int) (xs : List α) : Prop := xs.Pairwise (fun x y => f y ≤ f x)
set_option maxRecDepth 100000 in
theorem takeW_all {α : Type} {p : α → Bool} : ∀ {xs : List α} {y : α}, y ∈ xs.takeWhile p → p y = true
  | [], y, h => by simp at h
  | x :: xs, y, h => by
    rw [List.takeWhile_cons] at h
    split at h
    · rename_i hx
      rcases List.mem_cons.1 h with rfl | h
      · exact hx
      · exact takeW_all h
    · simp at h
set_option maxRecDepth 100000 in
theorem insD_desc {α : Type} {f : α → Int} : ∀ {xs : List α} (a : α), DescK f xs → DescK f (insD f xs a)
  | [], a, _ => by simp [DescK, insD]
  | x :: xs, a, h => by
    unfold DescK at h
    rw [List.pairwise_cons] at h
    have ih : DescK f (insD f xs a) := insD_desc a h.2
    by_cases hx : f a ≤ f x
    · have e : insD f (x :: xs) a = x :: insD f xs a := by simp [insD, hx]
      rw [e]
      unfold DescK
      rw [List.pairwise_cons]
      refine ⟨fun y hy => ?_, ih⟩
      rcases insD_mem.1 hy with rfl | hy
      · exact hx
      · exact h.1 y hy
    · have e : insD f (x :: xs) a = a :: x :: xs := by simp [insD, hx]
      rw [e]
      unfold DescK
      rw [List.pairwise_cons]
      refine ⟨fun y hy => ?_, List.pairwise_cons.2 h⟩
      rcases List.mem_cons.1 hy with rfl | hy
      · omega
      · have := h.1 y hy; omega
set_option maxRecDepth 100000 in
theorem foldl_ins_desc {α : Type} (f : α → Int) : ∀ (xs acc : List α), DescK f acc → DescK f (xs.foldl (insD f) acc)
  | [], _, h => h
  | x :: xs, _, h => foldl_ins_desc f xs _ (insD_desc x h)
set_option maxRecDepth 100000 in
theorem sortD_desc {α : Type} (f : α → Int) (xs : List α) : DescK f (sortD f xs) := foldl_ins_desc f xs [] List.Pairwise.nil

set_option maxRecDepth 100000 in
/-- A place in a descending list with only greater or equal keys before it and only smaller ones from it on is where insertion puts x. -/
theorem insD_place {α : Type} {f : α → Int} {a : α} : ∀ {xs : List α} {j : Nat}, (∀ y ∈ xs.take j, f a ≤ f y) → (∀ y ∈ xs.drop j, f y < f a) → insD f xs a = xs.take j ++ a :: xs.drop j
  | [], j, _, _ => by simp [insD]
  | x :: xs, 0, _, h2 => by
    have hx : ¬ f a ≤ f x := by have := h2 x (by simp); omega
    simp [insD, hx]
  | x :: xs, j + 1, h1, h2 => by
    have hx : f a ≤ f x := h1 x (by simp)
    have ih := insD_place (f := f) (a := a) (xs := xs) (j := j) (fun y hy => h1 y (by simp [hy])) (fun y hy => h2 y (by simpa using hy))
    have e : insD f (x :: xs) a = x :: insD f xs a := by simp [insD, hx]
    rw [e, ih]; simp
set_option maxRecDepth 100000 in
/-- The same where only the neighbour in front is known, the list being in order. -/
theorem insD_stop {α : Type} {f : α → Int} {a : α} {xs : List α} {j : Nat} (hd : DescK f xs) (h1 : j = 0 ∨ ∃ y, xs[j - 1]? = some y ∧ f a ≤ f y) (h2 : ∀ y ∈ xs.drop j, f y < f a) : insD f xs a = xs.take j ++ a :: xs.drop j := by
  refine insD_place (fun y hy => ?_) h2
  rcases h1 with rfl | ⟨z, hz, hle⟩
  · simp at hy
  · obtain ⟨i, hi⟩ := List.mem_iff_getElem?.1 hy
    have hij : i < j := by have := lt_of_at hi; rw [List.length_take] at this; omega
    rw [List.getElem?_take_of_lt hij] at hi
    rcases Nat.lt_or_ge i (j - 1) with hlt | hge
    · have hl1 := lt_of_at hi
      have hl2 := lt_of_at hz
      have := List.pairwise_iff_getElem.1 hd i (j - 1) hl1 hl2 hlt
      rw [List.getElem?_eq_getElem hl1] at hi
      rw [List.getElem?_eq_getElem hl2] at hz
      injection hi with hi
      injection hz with hz
      subst hi
      subst hz
      omega
    · have : i = j - 1 := by omega
      subst this
      rw [hi] at hz
      injection hz with hz
      subst hz
      exact hle
set_option maxRecDepth 100000 in
/-- How many stand in front, counted from the front. -/
theorem insD_count {α : Type} {f : α → Int} {a : α} {xs : List α} {k : Nat} (h1 : ∀ y ∈ xs.take k, f a ≤ f y) (h2 : k = xs.length ∨ ∃ y, xs[k]? = some y ∧ f y < f a) (hd : DescK f xs) : insD f xs a = xs.take k ++ a :: xs.drop k := by
  refine insD_place h1 (fun y hy => ?_)
  rcases h2 with rfl | ⟨z, hz, hlt⟩
  · simp at hy
  · obtain ⟨i, hi⟩ := List.mem_iff_getElem?.1 hy
    rw [List.getElem?_drop] at hi
    rcases Nat.eq_zero_or_pos i with rfl | hpos
    · rw [Nat.add_zero, hz] at hi
      injection hi with hi
      subst hi
      exact hlt
    · have hl1 := lt_of_at hz
      have hl2 := lt_of_at hi
      have := List.pairwise_iff_getElem.1 hd k (k + i) hl1 hl2 (by omega)
      rw [List.getElem?_eq_getElem hl1] at hz
      rw [List.getElem?_eq_getElem hl2] at hi
      injection hi with hi
      injection hz with hz
      subst hi
      subst hz
      omega

end Go.Proofs.Ytkbbcglghfddjaa
