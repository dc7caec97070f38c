/- The pairs of which the first one beats the second one, and those that are kept (plain law). -/
import Derived.Test.YtacmabdeocmheaaLock
import Derived.Test.YtacmabdeocmheaaSort
import Derived.Test.YtacmabdeocmheaaMrk
namespace Go.Proofs.Ytacmabdeocmheaa
open Go.RowKit

def prRow (vs : List Vt) (a : Nat) : Nat → List (List Int)
  | 0 => []
  | b + 1 => prRow vs a b ++ if beatsV vs a b then [[(a : Int), (b : Int)]] else []
def prAll (n : Nat) (vs : List Vt) : Nat → List (List Int)
  | 0 => []
  | a + 1 => prAll n vs a ++ prRow vs a n
def margP (vs : List Vt) (x : List Int) : Int := marginV vs (p0 x) (p1 x)
def srtP (n : Nat) (vs : List Vt) : List (List Int) := sortD (margP vs) (prAll n vs n)
noncomputable def lokO (sz : Int) (vs : List Vt) : List (List Int) := if profOk sz vs then lockL (srtP sz.toNat vs) else []
set_option maxRecDepth 100000 in
theorem prRow_len (vs : List Vt) (a : Nat) : ∀ b, (prRow vs a b).length ≤ b
  | 0 => by simp [prRow]
  | b + 1 => by
    have ih := prRow_len vs a b
    rw [prRow, List.length_append]
    split <;> simp <;> omega
set_option maxRecDepth 100000 in
theorem prAll_len (n : Nat) (vs : List Vt) : ∀ a, (prAll n vs a).length ≤ a * n
  | 0 => by simp [prAll]
  | a + 1 => by
    have ih := prAll_len n vs a
    have h := prRow_len vs a n
    rw [prAll, List.length_append, Nat.succ_mul]
    omega
/-- A pair of two candidates. -/
def PairN (n : Nat) (x : List Int) : Prop := ∃ a b : Nat, a < n ∧ b < n ∧ x = [(a : Int), (b : Int)]
set_option maxRecDepth 100000 in
theorem prRow_mem {n a : Nat} {vs : List Vt} (ha : a < n) : ∀ b, b ≤ n → ∀ x ∈ prRow vs a b, PairN n x ∧ beatsV vs (p0 x) (p1 x) = true
  | 0, _, x, h => by simp [prRow] at h
  | b + 1, hb, x, h => by
    rw [prRow] at h
    rcases List.mem_append.1 h with h | h
    · exact prRow_mem ha b (by omega) x h
    · by_cases hq : beatsV vs a b = true
      · rw [if_pos hq] at h
        simp at h
        subst h
        exact ⟨⟨a, b, ha, by omega, rfl⟩, hq⟩
      · rw [if_neg hq] at h; simp at h
set_option maxRecDepth 100000 in
theorem prAll_mem {n : Nat} {vs : List Vt} : ∀ a, a ≤ n → ∀ x ∈ prAll n vs a, PairN n x ∧ beatsV vs (p0 x) (p1 x) = true
  | 0, _, x, h => by simp [prAll] at h
  | a + 1, ha, x, h => by
    rw [prAll] at h
    rcases List.mem_append.1 h with h | h
    · exact prAll_mem a (by omega) x h
    · exact prRow_mem (by omega) n (Nat.le_refl _) x h
set_option maxRecDepth 100000 in
theorem srtP_mem {n : Nat} {vs : List Vt} {x : List Int} (h : x ∈ srtP n vs) : PairN n x ∧ beatsV vs (p0 x) (p1 x) = true := prAll_mem n (Nat.le_refl _) x (sortD_mem.1 h)
set_option maxRecDepth 100000 in
theorem PairN.len {n : Nat} {x : List Int} (h : PairN n x) : x.length = 2 := by obtain ⟨a, b, _, _, rfl⟩ := h; rfl
set_option maxRecDepth 100000 in
theorem srtP_len (n : Nat) (vs : List Vt) : (srtP n vs).length ≤ n * n := by unfold srtP; rw [sortD_len]; exact prAll_len n vs n
set_option maxRecDepth 100000 in
theorem lockL_all (xss : List (List Int)) : lockL xss = lockL (xss.take xss.length) := by rw [List.take_length]
set_option maxRecDepth 100000 in
theorem lok_sub (xss : List (List Int)) : ∀ y ∈ lockL xss, y ∈ xss := fun y hy => lockL_mem xss xss.length (Nat.le_refl _) y (by rwa [List.take_length])
set_option maxRecDepth 100000 in
theorem lokO_bd (sz : Int) (vs : List Vt) : (lokO sz vs).length ≤ 1000 ∧ ∀ x ∈ lokO sz vs, x.length ≤ 100 := by
  unfold lokO
  cases h0 : profOk sz vs
  · simp
  · obtain ⟨n, rfl, n1, n2⟩ := prof_nat h0
    simp only [if_true, Int.toNat_natCast]
    have h1 := lockL_len (srtP n vs) _ (Nat.le_refl _)
    rw [List.take_length] at h1
    have h2 := srtP_len n vs
    have h3 : n * n ≤ 5 * 5 := Nat.mul_le_mul n2 n2
    exact ⟨by omega, fun x hx => by have := (srtP_mem (lok_sub _ x hx)).1.len; omega⟩
def sumTo (f : Nat → Nat) : Nat → Nat
  | 0 => 0
  | k + 1 => sumTo f k + f k
def bt1 (vs : List Vt) (i j : Nat) : Nat := if beatsV vs i j then 1 else 0
set_option maxRecDepth 100000 in
theorem prRow_sum (vs : List Vt) (a : Nat) : ∀ b, (prRow vs a b).length = sumTo (bt1 vs a) b
  | 0 => rfl
  | b + 1 => by
    rw [prRow, List.length_append, prRow_sum vs a b, sumTo]
    unfold bt1
    split <;> rfl
set_option maxRecDepth 100000 in
theorem prAll_sum (n : Nat) (vs : List Vt) : ∀ a, (prAll n vs a).length = sumTo (fun i => sumTo (bt1 vs i) n) a
  | 0 => rfl
  | a + 1 => by rw [prAll, List.length_append, prAll_sum n vs a, sumTo, prRow_sum]
set_option maxRecDepth 100000 in
theorem bt1_two (vs : List Vt) (i j : Nat) : bt1 vs i j + bt1 vs j i ≤ 1 := by
  unfold bt1
  by_cases h : beatsV vs i j = true
  · rw [if_pos h, beatsV_anti h]; simp
  · rw [if_neg h]; split <;> omega
set_option maxRecDepth 100000 in
/-- There are at most ten of them. -/
theorem prAll_ten {n : Nat} (n2 : n ≤ 5) (vs : List Vt) : (prAll n vs n).length ≤ 10 := by
  rw [prAll_sum]
  have h := bt1_two vs
  have a0 := h 0 0
  have a1 := h 0 1
  have a2 := h 0 2
  have a3 := h 0 3
  have a4 := h 0 4
  have b1 := h 1 1
  have b2 := h 1 2
  have b3 := h 1 3
  have b4 := h 1 4
  have c2 := h 2 2
  have c3 := h 2 3
  have c4 := h 2 4
  have d3 := h 3 3
  have d4 := h 3 4
  have e4 := h 4 4
  rcases (show n = 0 ∨ n = 1 ∨ n = 2 ∨ n = 3 ∨ n = 4 ∨ n = 5 by omega) with rfl | rfl | rfl | rfl | rfl | rfl <;> simp only [sumTo] <;> omega
set_option maxRecDepth 100000 in
/-- Sorting entries is sorting what they hold. -/
theorem insD_map {α β : Type} (g : α → β) (f : β → Int) (xs : List α) (a : α) : (insD (fun x => f (g x)) xs a).map g = insD f (xs.map g) (g a) := by
  unfold insD
  rw [List.map_append, List.map_cons, List.takeWhile_map, List.dropWhile_map]
  rfl
set_option maxRecDepth 100000 in
theorem sortD_map {α β : Type} (g : α → β) (f : β → Int) (xs : List α) : (sortD (fun x => f (g x)) xs).map g = sortD f (xs.map g) := by
  have key : ∀ (xs acc : List α), (xs.foldl (insD (fun x => f (g x))) acc).map g = (xs.map g).foldl (insD f) (acc.map g) := by
    intro xs
    induction xs with
    | nil => intro acc; rfl
    | cons x xs ih => intro acc; rw [List.foldl_cons, ih, insD_map, List.map_cons, List.foldl_cons]
  exact key xs []

/-- The next ones that a search comes to: one more pair. -/
def seenS (at0 : Int) (seen : List Int) (x : List Int) : List Int := if p0 x = at0 ∧ hasI seen (p1 x) = false then seen ++ [p1 x] else seen
def seenT (at0 : Int) (seen : List Int) (kept : List (List Int)) : List Int := kept.foldl (seenS at0) seen
set_option maxRecDepth 100000 in
theorem seenT_at {at0 : Int} {seen : List Int} {kept : List (List Int)} {k : Nat} {x : List Int} (h : kept[k]? = some x) : seenT at0 seen (kept.take (k + 1)) = seenS at0 (seenT at0 seen (kept.take k)) x := by
  rw [take_at h]; simp [seenT]
/-- What holds of the search: no one twice, all can be reached, and those of place < k are done. -/
structure SeenOk (n : Nat) (kept : List (List Int)) (a b : Int) (seen : List Int) (k : Nat) : Prop where
  nd : seen.Nodup
  inn : ∀ y ∈ seen, ∃ i : Nat, i < n ∧ y = i
  reach : ∀ y ∈ seen, ReachL kept a y
  start : a ∈ seen
  done : ∀ (j : Nat) (y : Int), j < k → seen[j]? = some y → y ≠ b ∧ ∀ x ∈ kept, p0 x = y → p1 x ∈ seen
set_option maxRecDepth 100000 in
theorem SeenOk.len {n : Nat} {kept : List (List Int)} {a b : Int} {seen : List Int} {k : Nat} (h : SeenOk n kept a b seen k) : seen.length ≤ n := by
  have h2 := List.Nodup.length_le_of_subset (l₂ := upL n (fun _ => true)) h.nd (fun y hy => by
    obtain ⟨i, hi, rfl⟩ := h.inn y hy
    exact upL_mem.2 ⟨i, hi, rfl, rfl⟩)
  rwa [upL_true_len] at h2
set_option maxRecDepth 100000 in
theorem SeenOk.begin {n : Nat} {kept : List (List Int)} {a b : Int} (ha : ∃ i : Nat, i < n ∧ a = i) : SeenOk n kept a b [a] 0 :=
  ⟨by simp, fun y hy => by simp at hy; subst hy; exact ha, fun y hy => by simp at hy; subst hy; exact ReachL.refl _, by simp, fun j y hj => by omega⟩
set_option maxRecDepth 100000 in
theorem SeenOk.yes {n : Nat} {kept : List (List Int)} {a b : Int} {seen : List Int} {k : Nat} (h : SeenOk n kept a b seen k) (hk : seen[k]? = some b) : wayB kept a b = true := wayB_iff.2 (h.reach b (List.mem_of_getElem? hk))
set_option maxRecDepth 100000 in
theorem SeenOk.no {n : Nat} {kept : List (List Int)} {a b : Int} {seen : List Int} {k : Nat} (h : SeenOk n kept a b seen k) (hk : seen.length ≤ k) : wayB kept a b = false := by
  rw [wayB_no]
  intro hr
  have hin : b ∈ seen := reach_in (seen := seen) (fun x hx hp => by
    obtain ⟨j, hj⟩ := List.mem_iff_getElem?.1 hp
    exact (h.done j _ (by have := lt_of_at hj; omega) hj).2 x hx rfl) hr h.start
  obtain ⟨j, hj⟩ := List.mem_iff_getElem?.1 hin
  exact (h.done j b (by have := lt_of_at hj; omega) hj).1 rfl
/-- While the search looks at place k: all pairs before j from there are seen. -/
structure SeenIn (n : Nat) (kept : List (List Int)) (a b at0 : Int) (seen : List Int) (k j : Nat) : Prop where
  ok : SeenOk n kept a b seen k
  at_ : seen[k]? = some at0
  part : ∀ x ∈ kept.take j, p0 x = at0 → p1 x ∈ seen
set_option maxRecDepth 100000 in
theorem SeenIn.add {n : Nat} {kept : List (List Int)} {a b at0 : Int} {seen : List Int} {k j : Nat} (h : SeenIn n kept a b at0 seen k j) {x : List Int} (hx : kept[j]? = some x) (hp : ∃ i : Nat, i < n ∧ p1 x = i) (h0 : p0 x = at0) (h1 : hasI seen (p1 x) = false) :
    SeenIn n kept a b at0 (seen ++ [p1 x]) k (j + 1) := by
  have hno : p1 x ∉ seen := fun hm => by rw [hasI_iff.2 hm] at h1; cases h1
  have hxm := List.mem_of_getElem? hx
  have hr : ReachL kept a (p1 x) := (h.ok.reach at0 (List.mem_of_getElem? h.at_)).snoc hxm h0
  refine ⟨⟨?_, fun y hy => ?_, fun y hy => ?_, List.mem_append_left _ h.ok.start, fun i y hi hy => ?_⟩, by rw [List.getElem?_append_left (lt_of_at h.at_)]; exact h.at_, fun y hy hy0 => ?_⟩
  · rw [List.nodup_append]
    exact ⟨h.ok.nd, by simp, fun y hy z hz => by simp at hz; subst hz; exact fun e => hno (e ▸ hy)⟩
  · rcases List.mem_append.1 hy with hy | hy
    · exact h.ok.inn y hy
    · simp at hy; subst hy; exact hp
  · rcases List.mem_append.1 hy with hy | hy
    · exact h.ok.reach y hy
    · simp at hy; subst hy; exact hr
  · rw [List.getElem?_append_left (by have := lt_of_at h.at_; omega)] at hy
    have := h.ok.done i y hi hy
    exact ⟨this.1, fun z hz hz0 => List.mem_append_left _ (this.2 z hz hz0)⟩
  · rw [take_at hx] at hy
    rcases List.mem_append.1 hy with hy | hy
    · exact List.mem_append_left _ (h.part y hy hy0)
    · simp at hy; subst hy; simp
set_option maxRecDepth 100000 in
theorem SeenIn.pass {n : Nat} {kept : List (List Int)} {a b at0 : Int} {seen : List Int} {k j : Nat} (h : SeenIn n kept a b at0 seen k j) {x : List Int} (hx : kept[j]? = some x) (h1 : p0 x ≠ at0 ∨ hasI seen (p1 x) = true) :
    SeenIn n kept a b at0 seen k (j + 1) := by
  refine ⟨h.ok, h.at_, fun y hy hy0 => ?_⟩
  rw [take_at hx] at hy
  rcases List.mem_append.1 hy with hy | hy
  · exact h.part y hy hy0
  · simp at hy; subst hy
    rcases h1 with h1 | h1
    · exact absurd hy0 h1
    · exact hasI_iff.1 h1
set_option maxRecDepth 100000 in
theorem SeenIn.next {n : Nat} {kept : List (List Int)} {a b at0 : Int} {seen : List Int} {k j : Nat} (h : SeenIn n kept a b at0 seen k j) (hj : kept.length ≤ j) (hne : at0 ≠ b) : SeenOk n kept a b seen (k + 1) := by
  refine ⟨h.ok.nd, h.ok.inn, h.ok.reach, h.ok.start, fun i y hi hy => ?_⟩
  by_cases e : i = k
  · subst e
    have := h.at_
    rw [hy] at this
    injection this with this
    subst this
    exact ⟨hne, fun x hx h0 => h.part x (by rw [List.take_of_length_le hj]; exact hx) h0⟩
  · exact h.ok.done i y (by omega) hy

end Go.Proofs.Ytacmabdeocmheaa
