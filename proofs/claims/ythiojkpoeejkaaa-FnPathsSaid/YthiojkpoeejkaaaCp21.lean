/- The pairs of which the first one beats the second one, and those that are kept (plain law). The order that the kept pairs give (plain definition). The costs of a ranking by swaps, and the first ranking with the least cost (plain law). slices' stable sort with a function, of a short list. The ranking by scores, of the program. The run-off of the two first candidates. Who wins by each rule (plain definitions). By each rule somebody wins, and it is a candidate (plain law). -/
import Derived.Test.YthiojkpoeejkaaaCp20
import Derived.Test.YthiojkpoeejkaaaCp7
import Derived.Test.YthiojkpoeejkaaaCp14
import Derived.Test.YthiojkpoeejkaaaCp13
import Derived.Test.YthiojkpoeejkaaaCp8
import Derived.Test.YthiojkpoeejkaaaCp16
import Derived.Lib.BufferMore
import Derived.Test.YthiojkpoeejkaaaCp15
import Derived.Test.YthiojkpoeejkaaaCp19
import Derived.Test.YthiojkpoeejkaaaCp17
namespace Go.Proofs.Ythiojkpoeejkaaa
open Go.RowKit

def prRow (vs : List Vt) (a : Nat) : Nat → List (List Int)
  | 0 => []
  | b + 1 => prRow vs a b ++ if beatsV vs a b then [[(a : Int), (b : Int)]] else []
def prAll (n : Nat) (vs : List Vt) : Nat → List (List Int)
  | 0 => []
  | a + 1 => prAll n vs a ++ prRow vs a n
def margP (vs : List Vt) (x : List Int) : Int := marginV vs (p0 x) (p1 x)
def srtP (n : Nat) (vs : List Vt) : List (List Int) := sortD (margP vs) (prAll n vs n)
noncomputable def lokO (sz : Int) (vs : List Vt) : List (List Int) := if profOk sz vs then lockL (srtP sz.toNat vs) else []
set_option maxRecDepth 100000 in
theorem prRow_len (vs : List Vt) (a : Nat) : ∀ b, (prRow vs a b).length ≤ b
  | 0 => by simp [prRow]
  | b + 1 => by
    have ih := prRow_len vs a b
    rw [prRow, List.length_append]
    split <;> simp <;> omega
set_option maxRecDepth 100000 in
theorem prAll_len (n : Nat) (vs : List Vt) : ∀ a, (prAll n vs a).length ≤ a * n
  | 0 => by simp [prAll]
  | a + 1 => by
    have ih := prAll_len n vs a
    have h := prRow_len vs a n
    rw [prAll, List.length_append, Nat.succ_mul]
    omega
/-- A pair of two candidates. -/
def PairN (n : Nat) (x : List Int) : Prop := ∃ a b : Nat, a < n ∧ b < n ∧ x = [(a : Int), (b : Int)]
set_option maxRecDepth 100000 in
theorem prRow_mem {n a : Nat} {vs : List Vt} (ha : a < n) : ∀ b, b ≤ n → ∀ x ∈ prRow vs a b, PairN n x ∧ beatsV vs (p0 x) (p1 x) = true
  | 0, _, x, h => by simp [prRow] at h
  | b + 1, hb, x, h => by
    rw [prRow] at h
    rcases List.mem_append.1 h with h | h
    · exact prRow_mem ha b (by omega) x h
    · by_cases hq : beatsV vs a b = true
      · rw [if_pos hq] at h
        simp at h
        subst h
        exact ⟨⟨a, b, ha, by omega, rfl⟩, hq⟩
      · rw [if_neg hq] at h; simp at h
set_option maxRecDepth 100000 in
theorem prAll_mem {n : Nat} {vs : List Vt} : ∀ a, a ≤ n → ∀ x ∈ prAll n vs a, PairN n x ∧ beatsV vs (p0 x) (p1 x) = true
  | 0, _, x, h => by simp [prAll] at h
  | a + 1, ha, x, h => by
    rw [prAll] at h
    rcases List.mem_append.1 h with h | h
    · exact prAll_mem a (by omega) x h
    · exact prRow_mem (by omega) n (Nat.le_refl _) x h
set_option maxRecDepth 100000 in
theorem srtP_mem {n : Nat} {vs : List Vt} {x : List Int} (h : x ∈ srtP n vs) : PairN n x ∧ beatsV vs (p0 x) (p1 x) = true := prAll_mem n (Nat.le_refl _) x (sortD_mem.1 h)
set_option maxRecDepth 100000 in
theorem PairN.len {n : Nat} {x : List Int} (h : PairN n x) : x.length = 2 := by obtain ⟨a, b, _, _, rfl⟩ := h; rfl
set_option maxRecDepth 100000 in
theorem srtP_len (n : Nat) (vs : List Vt) : (srtP n vs).length ≤ n * n := by unfold srtP; rw [sortD_len]; exact prAll_len n vs n
set_option maxRecDepth 100000 in
theorem lockL_all (xss : List (List Int)) : lockL xss = lockL (xss.take xss.length) := by rw [List.take_length]
set_option maxRecDepth 100000 in
theorem lok_sub (xss : List (List Int)) : ∀ y ∈ lockL xss, y ∈ xss := fun y hy => lockL_mem xss xss.length (Nat.le_refl _) y (by rwa [List.take_length])
set_option maxRecDepth 100000 in
theorem lokO_bd (sz : Int) (vs : List Vt) : (lokO sz vs).length ≤ 1000 ∧ ∀ x ∈ lokO sz vs, x.length ≤ 100 := by
  unfold lokO
  cases h0 : profOk sz vs
  · simp
  · obtain ⟨n, rfl, n1, n2⟩ := prof_nat h0
    simp only [if_true, Int.toNat_natCast]
    have h1 := lockL_len (srtP n vs) _ (Nat.le_refl _)
    rw [List.take_length] at h1
    have h2 := srtP_len n vs
    have h3 : n * n ≤ 5 * 5 := Nat.mul_le_mul n2 n2
    exact ⟨by omega, fun x hx => by have := (srtP_mem (lok_sub _ x hx)).1.len; omega⟩
def sumTo (f : Nat → Nat) : Nat → Nat
  | 0 => 0
  | k + 1 => sumTo f k + f k
def bt1 (vs : List Vt) (i j : Nat) : Nat := if beatsV vs i j then 1 else 0
set_option maxRecDepth 100000 in
theorem prRow_sum (vs : List Vt) (a : Nat) : ∀ b, (prRow vs a b).length = sumTo (bt1 vs a) b
  | 0 => rfl
  | b + 1 => by
    rw [prRow, List.length_append, prRow_sum vs a b, sumTo]
    unfold bt1
    split <;> rfl
set_option maxRecDepth 100000 in
theorem prAll_sum (n : Nat) (vs : List Vt) : ∀ a, (prAll n vs a).length = sumTo (fun i => sumTo (bt1 vs i) n) a
  | 0 => rfl
  | a + 1 => by rw [prAll, List.length_append, prAll_sum n vs a, sumTo, prRow_sum]
set_option maxRecDepth 100000 in
theorem bt1_two (vs : List Vt) (i j : Nat) : bt1 vs i j + bt1 vs j i ≤ 1 := by
  unfold bt1
  by_cases h : beatsV vs i j = true
  · rw [if_pos h, beatsV_anti h]; simp
  · rw [if_neg h]; split <;> omega
set_option maxRecDepth 100000 in
/-- There are at most ten of them. -/
theorem prAll_ten {n : Nat} (n2 : n ≤ 5) (vs : List Vt) : (prAll n vs n).length ≤ 10 := by
  rw [prAll_sum]
  have h := bt1_two vs
  have a0 := h 0 0
  have a1 := h 0 1
  have a2 := h 0 2
  have a3 := h 0 3
  have a4 := h 0 4
  have b1 := h 1 1
  have b2 := h 1 2
  have b3 := h 1 3
  have b4 := h 1 4
  have c2 := h 2 2
  have c3 := h 2 3
  have c4 := h 2 4
  have d3 := h 3 3
  have d4 := h 3 4
  have e4 := h 4 4
  rcases (show n = 0 ∨ n = 1 ∨ n = 2 ∨ n = 3 ∨ n = 4 ∨ n = 5 by omega) with rfl | rfl | rfl | rfl | rfl | rfl <;> simp only [sumTo] <;> omega
set_option maxRecDepth 100000 in
/-- Sorting entries is sorting what they hold. -/
theorem insD_map {α β : Type} (g : α → β) (f : β → Int) (xs : List α) (a : α) : (insD (fun x => f (g x)) xs a).map g = insD f (xs.map g) (g a) := by
  unfold insD
  rw [List.map_append, List.map_cons, List.takeWhile_map, List.dropWhile_map]
  rfl
set_option maxRecDepth 100000 in
theorem sortD_map {α β : Type} (g : α → β) (f : β → Int) (xs : List α) : (sortD (fun x => f (g x)) xs).map g = sortD f (xs.map g) := by
  have key : ∀ (xs acc : List α), (xs.foldl (insD (fun x => f (g x))) acc).map g = (xs.map g).foldl (insD f) (acc.map g) := by
    intro xs
    induction xs with
    | nil => intro acc; rfl
    | cons x xs ih => intro acc; rw [List.foldl_cons, ih, insD_map, List.map_cons, List.foldl_cons]
  exact key xs []

/-- The next ones that a search comes to: one more pair. -/
def seenS (at0 : Int) (seen : List Int) (x : List Int) : List Int := if p0 x = at0 ∧ hasI seen (p1 x) = false then seen ++ [p1 x] else seen
def seenT (at0 : Int) (seen : List Int) (kept : List (List Int)) : List Int := kept.foldl (seenS at0) seen
set_option maxRecDepth 100000 in
theorem seenT_at {at0 : Int} {seen : List Int} {kept : List (List Int)} {k : Nat} {x : List Int} (h : kept[k]? = some x) : seenT at0 seen (kept.take (k + 1)) = seenS at0 (seenT at0 seen (kept.take k)) x := by
  rw [take_at h]; simp [seenT]
/-- What holds of the search: no one twice, all can be reached, and those of place < k are done. -/
structure SeenOk (n : Nat) (kept : List (List Int)) (a b : Int) (seen : List Int) (k : Nat) : Prop where
  nd : seen.Nodup
  inn : ∀ y ∈ seen, ∃ i : Nat, i < n ∧ y = i
  reach : ∀ y ∈ seen, ReachL kept a y
  start : a ∈ seen
  done : ∀ (j : Nat) (y : Int), j < k → seen[j]? = some y → y ≠ b ∧ ∀ x ∈ kept, p0 x = y → p1 x ∈ seen
set_option maxRecDepth 100000 in
theorem SeenOk.len {n : Nat} {kept : List (List Int)} {a b : Int} {seen : List Int} {k : Nat} (h : SeenOk n kept a b seen k) : seen.length ≤ n := by
  have h2 := List.Nodup.length_le_of_subset (l₂ := upL n (fun _ => true)) h.nd (fun y hy => by
    obtain ⟨i, hi, rfl⟩ := h.inn y hy
    exact upL_mem.2 ⟨i, hi, rfl, rfl⟩)
  rwa [upL_true_len] at h2
set_option maxRecDepth 100000 in
theorem SeenOk.begin {n : Nat} {kept : List (List Int)} {a b : Int} (ha : ∃ i : Nat, i < n ∧ a = i) : SeenOk n kept a b [a] 0 :=
  ⟨by simp, fun y hy => by simp at hy; subst hy; exact ha, fun y hy => by simp at hy; subst hy; exact ReachL.refl _, by simp, fun j y hj => by omega⟩
set_option maxRecDepth 100000 in
theorem SeenOk.yes {n : Nat} {kept : List (List Int)} {a b : Int} {seen : List Int} {k : Nat} (h : SeenOk n kept a b seen k) (hk : seen[k]? = some b) : wayB kept a b = true := wayB_iff.2 (h.reach b (List.mem_of_getElem? hk))
set_option maxRecDepth 100000 in
theorem SeenOk.no {n : Nat} {kept : List (List Int)} {a b : Int} {seen : List Int} {k : Nat} (h : SeenOk n kept a b seen k) (hk : seen.length ≤ k) : wayB kept a b = false := by
  rw [wayB_no]
  intro hr
  have hin : b ∈ seen := reach_in (seen := seen) (fun x hx hp => by
    obtain ⟨j, hj⟩ := List.mem_iff_getElem?.1 hp
    exact (h.done j _ (by have := lt_of_at hj; omega) hj).2 x hx rfl) hr h.start
  obtain ⟨j, hj⟩ := List.mem_iff_getElem?.1 hin
  exact (h.done j b (by have := lt_of_at hj; omega) hj).1 rfl
/-- While the search looks at place k: all pairs before j from there are seen. -/
structure SeenIn (n : Nat) (kept : List (List Int)) (a b at0 : Int) (seen : List Int) (k j : Nat) : Prop where
  ok : SeenOk n kept a b seen k
  at_ : seen[k]? = some at0
  part : ∀ x ∈ kept.take j, p0 x = at0 → p1 x ∈ seen
set_option maxRecDepth 100000 in
theorem SeenIn.add {n : Nat} {kept : List (List Int)} {a b at0 : Int} {seen : List Int} {k j : Nat} (h : SeenIn n kept a b at0 seen k j) {x : List Int} (hx : kept[j]? = some x) (hp : ∃ i : Nat, i < n ∧ p1 x = i) (h0 : p0 x = at0) (h1 : hasI seen (p1 x) = false) :
    SeenIn n kept a b at0 (seen ++ [p1 x]) k (j + 1) := by
  have hno : p1 x ∉ seen := fun hm => by rw [hasI_iff.2 hm] at h1; cases h1
  have hxm := List.mem_of_getElem? hx
  have hr : ReachL kept a (p1 x) := (h.ok.reach at0 (List.mem_of_getElem? h.at_)).snoc hxm h0
  refine ⟨⟨?_, fun y hy => ?_, fun y hy => ?_, List.mem_append_left _ h.ok.start, fun i y hi hy => ?_⟩, by rw [List.getElem?_append_left (lt_of_at h.at_)]; exact h.at_, fun y hy hy0 => ?_⟩
  · rw [List.nodup_append]
    exact ⟨h.ok.nd, by simp, fun y hy z hz => by simp at hz; subst hz; exact fun e => hno (e ▸ hy)⟩
  · rcases List.mem_append.1 hy with hy | hy
    · exact h.ok.inn y hy
    · simp at hy; subst hy; exact hp
  · rcases List.mem_append.1 hy with hy | hy
    · exact h.ok.reach y hy
    · simp at hy; subst hy; exact hr
  · rw [List.getElem?_append_left (by have := lt_of_at h.at_; omega)] at hy
    have := h.ok.done i y hi hy
    exact ⟨this.1, fun z hz hz0 => List.mem_append_left _ (this.2 z hz hz0)⟩
  · rw [take_at hx] at hy
    rcases List.mem_append.1 hy with hy | hy
    · exact List.mem_append_left _ (h.part y hy hy0)
    · simp at hy; subst hy; simp
set_option maxRecDepth 100000 in
theorem SeenIn.pass {n : Nat} {kept : List (List Int)} {a b at0 : Int} {seen : List Int} {k j : Nat} (h : SeenIn n kept a b at0 seen k j) {x : List Int} (hx : kept[j]? = some x) (h1 : p0 x ≠ at0 ∨ hasI seen (p1 x) = true) :
    SeenIn n kept a b at0 seen k (j + 1) := by
  refine ⟨h.ok, h.at_, fun y hy hy0 => ?_⟩
  rw [take_at hx] at hy
  rcases List.mem_append.1 hy with hy | hy
  · exact h.part y hy hy0
  · simp at hy; subst hy
    rcases h1 with h1 | h1
    · exact absurd hy0 h1
    · exact hasI_iff.1 h1
set_option maxRecDepth 100000 in
theorem SeenIn.next {n : Nat} {kept : List (List Int)} {a b at0 : Int} {seen : List Int} {k j : Nat} (h : SeenIn n kept a b at0 seen k j) (hj : kept.length ≤ j) (hne : at0 ≠ b) : SeenOk n kept a b seen (k + 1) := by
  refine ⟨h.ok.nd, h.ok.inn, h.ok.reach, h.ok.start, fun i y hi hy => ?_⟩
  by_cases e : i = k
  · subst e
    have := h.at_
    rw [hy] at this
    injection this with this
    subst this
    exact ⟨hne, fun x hx h0 => h.part x (by rw [List.take_of_length_le hj]; exact hx) h0⟩
  · exact h.ok.done i y (by omega) hy

noncomputable def prkO (sz : Int) (vs : List Vt) : List Int := if profOk sz vs then prL (lokO sz vs) sz.toNat sz.toNat else []
set_option maxRecDepth 100000 in
theorem prkO_len (sz : Int) (vs : List Vt) : (prkO sz vs).length ≤ 5 := by
  unfold prkO
  cases h0 : profOk sz vs
  · simp
  · obtain ⟨n, rfl, n1, n2⟩ := prof_nat h0
    simp only [if_true, Int.toNat_natCast, prL_len]
    exact n2

/-- Pairs that a list orders otherwise than xs. -/
def swapN (xs r : List Int) : Nat := bkI (fun y x => prefB r y x) xs
def kemV (vs : List Vt) (r : List Int) : Int := (vs.map (fun x => x.2 * (swapN x.1 r : Int))).sum
set_option maxRecDepth 100000 in
theorem kemV_at {vs : List Vt} {r : List Int} {k : Nat} {x : Vt} (hx : vs[k]? = some x) : kemV (vs.take (k + 1)) r = kemV (vs.take k) r + x.2 * (swapN x.1 r : Int) := by
  rw [take_at hx]; simp [kemV]
set_option maxRecDepth 100000 in
theorem swapN_bd {xs r : List Int} (h : xs.length ≤ 5) : swapN xs r ≤ 25 := by
  have h1 := bkI_bd (fun y x => prefB r y x) xs
  have h2 : xs.length * xs.length ≤ 5 * 5 := Nat.mul_le_mul h h
  unfold swapN
  omega
set_option maxRecDepth 100000 in
theorem kemV_bd {sz : Int} {vs : List Vt} {r : List Int} (hS : SmallV sz vs) : ∀ k, k ≤ vs.length → 0 ≤ kemV (vs.take k) r ∧ kemV (vs.take k) r ≤ 25000 * k
  | 0, _ => by simp [kemV]
  | k + 1, hk => by
    obtain ⟨x, hx⟩ := at_of_lt (xs := vs) (k := k) (by omega)
    have ih := kemV_bd (r := r) hS k (by omega)
    have h2 := hS.2 x (List.mem_of_getElem? hx)
    have h3 := swapN_bd (r := r) (rk_len h2.1).2
    rw [kemV_at hx]
    have h4 : 0 ≤ x.2 * (swapN x.1 r : Int) := Int.mul_nonneg (by omega) (by omega)
    have h5 : x.2 * (swapN x.1 r : Int) ≤ 1000 * 25 := Int.mul_le_mul (by omega) (by omega) (by omega) (by omega)
    omega
set_option maxRecDepth 100000 in
theorem kemV_bd' {sz : Int} {vs : List Vt} {r : List Int} (hS : SmallV sz vs) : 0 ≤ kemV vs r ∧ kemV vs r ≤ 600000 := by
  have h := kemV_bd (r := r) hS vs.length (Nat.le_refl _)
  rw [List.take_length] at h
  have := hS.1
  omega
/-- Pairs of a ranking of which the later one beats the earlier one. -/
def slaN (vs : List Vt) (r : List Int) : Int := (bkI (fun y x => beatsV vs y x) r : Nat)
set_option maxRecDepth 100000 in
theorem slaN_bd {vs : List Vt} {r : List Int} (h : r.length ≤ 5) : 0 ≤ slaN vs r ∧ slaN vs r ≤ 25 := by
  have h1 := bkI_bd (fun y x => beatsV vs y x) r
  have h2 : r.length * r.length ≤ 5 * 5 := Nat.mul_le_mul h h
  unfold slaN
  omega
/-- The first of all rankings with the least cost, this cost, and how many have it. -/
def lstR (cost : List Int → Int) (n : Nat) : List Int × Int × Nat := lstT cost (allO n) (allO n).length
def lstO (cost : List Int → Int) (sz : Int) (vs : List Vt) : List Int × Int × Nat := if profOk sz vs then lstR cost sz.toNat else ([], 0, 0)
set_option maxRecDepth 100000 in
theorem allO_pos {n : Nat} (n1 : 1 ≤ n) (n2 : n ≤ 5) : 1 ≤ (allO n).length := by
  obtain ⟨r, hr⟩ := allO_ne n1 n2
  obtain ⟨k, hk⟩ := List.mem_iff_getElem?.1 hr
  have := lt_of_at hk
  omega
set_option maxRecDepth 100000 in
theorem lstR_mem {cost : List Int → Int} {n : Nat} (n1 : 1 ≤ n) (n2 : n ≤ 5) : (lstR cost n).1 ∈ allO n ∧ (lstR cost n).2.1 = cost (lstR cost n).1 := lstT_mem _ (allO_pos n1 n2) (Nat.le_refl _)
set_option maxRecDepth 100000 in
theorem lstT_cnt {cost : List Int → Int} {xss : List (List Int)} : ∀ k, (lstT cost xss k).2.2 ≤ k
  | 0 => by simp [lstT]
  | k + 1 => by
    have ih := lstT_cnt (cost := cost) (xss := xss) k
    rw [lstT]
    split
    · simp
    · split
      · simp; omega
      · omega
set_option maxRecDepth 100000 in
theorem lstT_new {cost : List Int → Int} {xss : List (List Int)} {k : Nat} {r : List Int} (hr : xss[k]? = some r) (h : k = 0 ∨ cost r < (lstT cost xss k).2.1) : lstT cost xss (k + 1) = (r, cost r, 1) := by
  have hg : xss.getD k [] = r := by simp [List.getD, hr]
  rw [lstT, hg, if_pos h]
set_option maxRecDepth 100000 in
theorem lstT_tie {cost : List Int → Int} {xss : List (List Int)} {k : Nat} {r : List Int} (hr : xss[k]? = some r) (hk : k ≠ 0) (h : cost r = (lstT cost xss k).2.1) : lstT cost xss (k + 1) = ((lstT cost xss k).1, (lstT cost xss k).2.1, (lstT cost xss k).2.2 + 1) := by
  have hg : xss.getD k [] = r := by simp [List.getD, hr]
  rw [lstT, hg, if_neg (by omega), if_pos h]
set_option maxRecDepth 100000 in
theorem lstT_old {cost : List Int → Int} {xss : List (List Int)} {k : Nat} {r : List Int} (hr : xss[k]? = some r) (hk : k ≠ 0) (h : (lstT cost xss k).2.1 < cost r) : lstT cost xss (k + 1) = lstT cost xss k := by
  have hg : xss.getD k [] = r := by simp [List.getD, hr]
  rw [lstT, hg, if_neg (by omega), if_neg (by omega)]
set_option maxRecDepth 100000 in
theorem lstO_len (cost : List Int → Int) (sz : Int) (vs : List Vt) : (lstO cost sz vs).1.length ≤ 5 := by
  unfold lstO
  cases h0 : profOk sz vs
  · simp
  · obtain ⟨n, rfl, n1, n2⟩ := prof_nat h0
    simp only [if_true, Int.toNat_natCast]
    exact (rk_len ((allO_mem n1 n2).1 (lstR_mem n1 n2).1)).2
def kemO (sz : Int) (vs : List Vt) : List Int := (lstO (kemV vs) sz vs).1
def slaO (sz : Int) (vs : List Vt) : List Int := (lstO (slaN vs) sz vs).1
def slaW (sz : Int) (vs : List Vt) : Int := if profOk sz vs then (lstO (slaN vs) sz vs).2.1 else -1

set_option maxRecDepth 100000 in
set_option maxHeartbeats 4000000 in
theorem stab_impl (K : Nat) (fst cap : Array Value) (key : Int → Int) (d : Int → Int → Int) (w : World) (g n c : Nat) (ys : List Int) (hn : ys.length = n) (hn2 : n ≤ 19) (hB : BlkF w g n (memF (Value.int .i64) ys)) (hK : Enters Try.prog K)
    (hd : ∀ x y, d x y < 0 ↔ key y < key x)
    (hf : ∀ (x y : Int) (w' : World), x ∈ ys → y ∈ ys → Only g w w' → Calls Try.prog K (fst ++ (#[.int .i64 x, .int .i64 y] ++ cap)) w' fun e w'' => e = .returned (.int .i64 (d x y)) ∧ Ext w' w'') :
    Calls Try.prog 129 #[.slice (some ⟨g, 0, none⟩) n c, .func (.func K) fst cap] w fun e w' => e = .returned (.tuple #[]) ∧ BlkF w' g n (memF (Value.int .i64) (sortD key ys)) ∧ Only g w w' := by
  have HI := hide (ins_impl K fst cap key d w g n c ys hn (by omega) hB hK hd hf)
  have i1 : ¬ (20 : Int) ≤ (n : Int) := by omega
  have i2 : ¬ (20 : Int) < (n : Int) := by omega
  clear hd hf hB hn
  have HS : Hid (Calls Try.prog 194 #[.slice (some ⟨g, 0, none⟩) n c, .int .i64 n, .func (.func K) fst cap] w fun e w' => e = .returned (.tuple #[]) ∧ BlkF w' g n (memF (Value.int .i64) (sortD key ys)) ∧ Only g w w') := by
    go_enter Try.func194, Try.ntmps194
    go_wp2_with fail
    go_loopw [7, 8] (fun a b wr => a = .int .i64 0 ∧ b = .int .i64 20 ∧ wr = w) (fun _ _ _ => 0)
    case atStart => exact ⟨rfl, rfl, rfl⟩
    case round =>
      obtain ⟨rfl, rfl, rfl⟩ := hrel
      go_wp2_with fail
      refine HI.out.mono ?_
      rintro e w1 ⟨rfl, hB1, hO1⟩
      obtain ⟨wb, hwb⟩ : ∃ wb : World, wb = wr := ⟨_, rfl⟩
      subst hwb
      go_wp2_with fail
      go_loopw [6, 7, 8, 9] (fun s _ _ _ wq => s = .int .i64 20 ∧ wq = w1) (fun _ _ _ _ _ => 0)
      case atStart => exact ⟨rfl, rfl⟩
      case round =>
        obtain ⟨rfl, rfl⟩ := hrel
        go_wp2
        go_end0
        exact ⟨rfl, hB1, hO1⟩
  go_enter Try.func129, Try.ntmps129
  go_wp2_with fail
  refine HS.out.mono ?_
  rintro e w1 ⟨rfl, hB1, hO1⟩
  go_wp2
  go_end0
  exact ⟨rfl, hB1, hO1⟩

set_option maxRecDepth 100000 in
set_option maxHeartbeats 1000000 in
theorem srkOne (w : World) (gs n : Nat) (av : Option Addr) (cv : Nat) (sc : Nat → Int) (i j : Nat) (hg : w.cell? ⟨gs, 0, none⟩ = some (.slice av n cv)) (hR : RdI w av (rowL n sc)) (hi : i < n) (hj : j < n)
    (h1 : -10000000 ≤ sc i ∧ sc i ≤ 10000000) (h2 : -10000000 ≤ sc j ∧ sc j ≤ 10000000) :
    Calls Try.prog 130 (#[] ++ (#[.int .i64 (i : Int), .int .i64 (j : Int)] ++ #[.pointer (some ⟨gs, 0, none⟩)])) w fun e w' => e = .returned (.int .i64 (sc j - sc i)) ∧ Ext w w' := by
  obtain ⟨b, off, rfl, c0⟩ := hR.at_ (rowL_at (f := sc) hi)
  obtain ⟨b2, off2, hb, c1⟩ := hR.at_ (rowL_at (f := sc) hj)
  injection hb with hb
  injection hb with hb hb2
  subst hb
  subst hb2
  have y1 : wrap64 (sc j - sc i) = sc j - sc i := IntWalk.wrap64_in _ (by omega)
  have y2 : IntKind.i64.wrap (sc j - sc i) = sc j - sc i := IntWalk.i64_in _ (by omega)
  show Calls Try.prog 130 #[.int .i64 (i : Int), .int .i64 (j : Int), .pointer (some ⟨gs, 0, none⟩)] w _
  go_enter Try.func130, Try.ntmps130
  go_wp2
  refine wp_region_X (by kernel_rfl) (by kernel_rfl) ?_
  repeat' (refine wpX_stepQ (fun K hK => ?_)
           go_simp
           try (rw [if_neg (by intro h; simp [undef] at h)])
           try split
           all_goals
             first
             | (refine hK _ ?_
                clear hK K)
             | (apply Exists.intro
                refine ⟨fun wq hwq => ?_, hK _ ?_⟩
                · have hcq := hwq.cellS
                  go_simp
                  first
                  | exact ⟨Ext.refl _, rfl⟩
                clear hK K))
  refine wpX_nil (fun wz hwz => ?_)
  go_wp2
  go_ret
  exact ⟨rfl, hwz⟩

set_option maxRecDepth 100000 in
set_option maxHeartbeats 4000000 in
theorem srk_impl (w : World) (sz : Int) (a aw : Option Addr) (c cw : Nat) (vs : List Vt) (f : Nat → Int) (n : Nat) (hz : sz = n) (hR : RdV w a vs) (hW : RdI w aw (rowL n f)) (hf : GoodW f) (h0 : profOk sz vs = true) :
    Calls Try.prog 38 #[.agg #[.int .i64 sz, .slice a vs.length c], .slice aw n cw] w fun e w' => ∃ v, e = .returned v ∧ WrI w' w.heap.size v (srk (scoV f vs) n) ∧ Ext w w' := by
  subst hz
  obtain ⟨m, hm, n1, n2⟩ := prof_nat h0
  have hnm : n = m := by omega
  rw [← hnm] at n1 n2
  clear hm hnm m
  have HF := hide hf
  have hbd : ∀ j, -10000000 ≤ scoV f vs j ∧ scoV f vs j ≤ 10000000 := fun j => by
    have hS := prof_small h0
    have h := scoV_bd hS hf j vs.length (Nat.le_refl _)
    rw [List.take_length] at h
    have := hS.1
    omega
  have HBD := hide hbd
  clear hf hbd
  have q0 := new0 w (.int .i64 n) [.slice a vs.length c] 47
  have q1 := new1 w (.int .i64 n) (.slice a vs.length c) [] 47
  have hnil : ∀ (W : World) (a : Addr) (n c : Nat), (binOp .eql 29 (.slice (some a) n c) (.slice none 0 0)).run Try.prog W = .ok (.bool false) W := fun W a n c => Lib.run_eql_slice_some_nil W a n c Try.underlying29
  go_enter Try.func38, Try.ntmps38
  go_wp2_with fail
  refine (sco_impl _ _ a aw c cw vs f n rfl (hR.ext (by repeat (first | exact Ext.refl _ | assumption | refine Ext.alloc ?_ _ | refine Ext.drew ?_ | refine Ext.trans ?_ (by assumption)))) (hW.ext (by repeat (first | exact Ext.refl _ | assumption | refine Ext.alloc ?_ _ | refine Ext.drew ?_ | refine Ext.trans ?_ (by assumption)))) HF.out h0).mono ?_
  rintro e w1 ⟨v, rfl, hv, hw1⟩
  have q0 := hw1.keep q0
  have q1 := hw1.keep q1
  obtain ⟨av, cv, rfl, hcv, hRs, hju⟩ := hv.fr
  clear hju
  rw [rowL_len] at hcv hv ⊢
  obtain ⟨b0, off0, rfl, hc0⟩ := hRs.at_ (rowL_at (f := scoV f vs) (show 0 < n by omega))
  have hE1 : Ext w w1 := (Ext.new _ _).trans hw1
  have r0 := new0 w1 (.slice (some ⟨b0, off0, none⟩) n cv) [] 29
  have hE2 := Ext.new w1 (.cells #[.slice (some ⟨b0, off0, none⟩) n cv] 29)
  have q0 := hE2.keep q0
  have q1 := hE2.keep q1
  go_wp2_with fail
  refine (indices_impl _ n n2).mono ?_
  rintro e w2 ⟨rfl, hB, hw2⟩
  have hE3 : Ext w w2 := hE1.trans (hE2.trans hw2)
  have r0 := hw2.keep r0
  have hRs2 := (hRs.ext hE2).ext hw2
  have hG : (w1.alloc (.cells #[.slice (some ⟨b0, off0, none⟩) n cv] 29)).heap.size = w1.heap.size + 1 := by simp
  have hws := hE1.size
  have hb0 : b0 < w1.heap.size := World.block_lt_of_cell? w1 _ hc0
  rw [hG] at hB
  clear hG hE2 hw2 hRs hv q0 q1 hc0
  have hBm : BlkF w2 (w1.heap.size + 1) n (memF (Value.int .i64) (iotaL n)) := hB.congr (fun o ho => (memF_at (val := Value.int .i64) (rowL_at (f := fun j => (j : Int)) ho)).symm)
  have hl : (iotaL n).length = n := rowL_len _ _
  have HS := hide (stab_impl 130 #[] #[.pointer (some ⟨w1.heap.size, 0, none⟩)] (keyS (scoV f vs)) (fun x y => scoV f vs y.toNat - scoV f vs x.toNat) w2 (w1.heap.size + 1) n n (iotaL n) hl (by omega) hBm Try.call130
    (fun x y => by unfold keyS; omega)
    (fun x y w' hx hy hO => by
      obtain ⟨i, hi⟩ := List.mem_iff_getElem?.1 hx
      obtain ⟨hi1, rfl⟩ := rowL_val hi
      obtain ⟨j, hj⟩ := List.mem_iff_getElem?.1 hy
      obtain ⟨hj1, rfl⟩ := rowL_val hj
      simp only [Int.toNat_natCast]
      exact srkOne w' w1.heap.size n (some ⟨b0, off0, none⟩) cv (scoV f vs) i j (hO.keep (by show w1.heap.size ≠ w1.heap.size + 1; omega) r0) (hO.rdI hRs2 (fun b off h => by injection h with h; injection h with h; omega)) hi1 hj1 (HBD.out i) (HBD.out j)))
  clear hB hBm r0 hRs2 hnil
  go_wp2_with fail
  refine HS.out.mono ?_
  rintro e w3 ⟨rfl, hB3, hO3⟩
  go_wp2
  go_ret
  refine ⟨_, rfl, hB3.wrI (by rw [srk_len]) (fun j x hx => memF_at hx) (by omega) (Nat.le_refl _), Only.ext hE3 hO3 (by omega)⟩

/-- Of the two first of the ranking the one that beats the other one, else the lesser. -/
def runV (n : Nat) (vs : List Vt) : Int :=
  if n = 1 then 0 else
  if beatsV vs (max ((srk (scoV pluW vs) n).getD 0 0) ((srk (scoV pluW vs) n).getD 1 0)) (min ((srk (scoV pluW vs) n).getD 0 0) ((srk (scoV pluW vs) n).getD 1 0)) then max ((srk (scoV pluW vs) n).getD 0 0) ((srk (scoV pluW vs) n).getD 1 0)
  else min ((srk (scoV pluW vs) n).getD 0 0) ((srk (scoV pluW vs) n).getD 1 0)
def runO (sz : Int) (vs : List Vt) : Int := if profOk sz vs then runV sz.toNat vs else -1
set_option maxRecDepth 100000 in
theorem run_one {n : Nat} {vs : List Vt} (h0 : profOk n vs = true) (hn : n = 1) : runO n vs = 0 := by simp only [runO, h0, if_true, runV, Int.toNat_natCast, if_pos hn]
set_option maxRecDepth 100000 in
theorem srk_nodup (sc : Nat → Int) (n : Nat) : (srk sc n).Nodup := by
  unfold srk
  rw [(sortD_perm (keyS sc) (iotaL n)).nodup_iff, iotaL_up]
  exact upL_nodup _ _
set_option maxRecDepth 100000 in
theorem run_two {n : Nat} {vs : List Vt} {x y : Int} (h0 : profOk n vs = true) (hn : n ≠ 1) (hx : (srk (scoV pluW vs) n)[0]? = some x) (hy : (srk (scoV pluW vs) n)[1]? = some y) :
    runO n vs = if beatsV vs (max x y) (min x y) then max x y else min x y := by
  have e1 : (srk (scoV pluW vs) n).getD 0 0 = x := by simp [List.getD, hx]
  have e2 : (srk (scoV pluW vs) n).getD 1 0 = y := by simp [List.getD, hy]
  simp only [runO, h0, if_true, runV, Int.toNat_natCast, if_neg hn, e1, e2]

set_option maxRecDepth 100000 in
set_option maxHeartbeats 4000000 in
theorem run_impl (w : World) (sz : Int) (a : Option Addr) (c : Nat) (vs : List Vt) (hR : RdV w a vs) :
    Calls Try.prog 73 #[.agg #[.int .i64 sz, .slice a vs.length c]] w fun e w' => e = .returned (.int .i64 (runO sz vs)) ∧ Ext w w' := by
  have q0 := new0 w (.int .i64 sz) [.slice a vs.length c] 47
  have q1 := new1 w (.int .i64 sz) (.slice a vs.length c) [] 47
  cases h0 : profOk sz vs
  · go_enter Try.func73, Try.ntmps73
    go_wp2_with (go_at_call 35; refine (prof_impl _ _ _ _ _ (hR.ext (by repeat (first | exact Ext.refl _ | assumption | refine Ext.alloc ?_ _ | refine Ext.drew ?_ | refine Ext.trans ?_ (by assumption))))).mono ?_; rintro e w1 ⟨rfl, hw1⟩; have q0 := Ext.keep (w' := w1) (by repeat (first | exact Ext.refl _ | assumption | refine Ext.alloc ?_ _ | refine Ext.drew ?_ | refine Ext.trans ?_ (by assumption))) q0; have q1 := Ext.keep (w' := w1) (by repeat (first | exact Ext.refl _ | assumption | refine Ext.alloc ?_ _ | refine Ext.drew ?_ | refine Ext.trans ?_ (by assumption))) q1)
    go_ret
    exact ⟨ret_int (by simp [runO, h0]), (by repeat (first | exact Ext.refl _ | assumption | refine Ext.alloc ?_ _ | refine Ext.drew ?_ | refine Ext.trans ?_ (by assumption)))⟩
  obtain ⟨n, rfl, n1, n2⟩ := prof_nat h0
  have HS := hide (prof_small h0)
  by_cases hn : n = 1
  · have hn1 : ((n : Int) == 1) = true := by rw [beq_iff_eq]; omega
    have HN := hide hn
    clear hn
    go_enter Try.func73, Try.ntmps73
    go_wp2_with (go_at_call 35; refine (prof_impl _ _ _ _ _ (hR.ext (by repeat (first | exact Ext.refl _ | assumption | refine Ext.alloc ?_ _ | refine Ext.drew ?_ | refine Ext.trans ?_ (by assumption))))).mono ?_; rintro e w1 ⟨rfl, hw1⟩; have q0 := Ext.keep (w' := w1) (by repeat (first | exact Ext.refl _ | assumption | refine Ext.alloc ?_ _ | refine Ext.drew ?_ | refine Ext.trans ?_ (by assumption))) q0; have q1 := Ext.keep (w' := w1) (by repeat (first | exact Ext.refl _ | assumption | refine Ext.alloc ?_ _ | refine Ext.drew ?_ | refine Ext.trans ?_ (by assumption))) q1)
    go_ret
    exact ⟨ret_int (run_one h0 HN.out).symm, (by repeat (first | exact Ext.refl _ | assumption | refine Ext.alloc ?_ _ | refine Ext.drew ?_ | refine Ext.trans ?_ (by assumption)))⟩
  have hn1 : ((n : Int) == 1) = false := by rw [beq_eq_false_iff_ne]; omega
  have hin : inR (n : Int) 1 5 = true := inR_iff.2 (by omega)
  go_enter Try.func73, Try.ntmps73
  go_wp2_with (go_at_call 35; refine (prof_impl _ _ _ _ _ (hR.ext (by repeat (first | exact Ext.refl _ | assumption | refine Ext.alloc ?_ _ | refine Ext.drew ?_ | refine Ext.trans ?_ (by assumption))))).mono ?_; rintro e w1 ⟨rfl, hw1⟩; have q0 := Ext.keep (w' := w1) (by repeat (first | exact Ext.refl _ | assumption | refine Ext.alloc ?_ _ | refine Ext.drew ?_ | refine Ext.trans ?_ (by assumption))) q0; have q1 := Ext.keep (w' := w1) (by repeat (first | exact Ext.refl _ | assumption | refine Ext.alloc ?_ _ | refine Ext.drew ?_ | refine Ext.trans ?_ (by assumption))) q1)
  have hw : Ext w w1 := (by repeat (first | exact Ext.refl _ | assumption | refine Ext.alloc ?_ _ | refine Ext.drew ?_ | refine Ext.trans ?_ (by assumption)))
  refine wp_region_X (by kernel_rfl) (by kernel_rfl) ?_
  repeat' (refine wpX_stepQ (fun K hK => ?_)
           go_simp
           try (rw [if_neg (by intro h; simp [undef] at h)])
           try split
           all_goals
             first
             | (refine hK _ ?_
                clear hK K)
             | (apply Exists.intro
                refine ⟨fun wq hwq => ?_, hK _ ?_⟩
                · have hcq := hwq.cellS
                  go_simp
                  first
                  | exact ⟨Ext.refl _, rfl⟩
                clear hK K))
  refine wpX_stepS rfl (by kernel_rfl) (fun K hK wq hwq => ?_)
  go_simp
  refine (plu_impl _ n).mono ?_
  rintro e w3 ⟨v, rfl, hv, hw3⟩
  refine ⟨hw3, hK _ _ ?_⟩
  clear hK K
  have hv := hv n rfl hin
  obtain ⟨av, cv, rfl, _, hRw, hju⟩ := hv.fr
  rw [rowL_len]
  have hw0 := hw.trans (hwq.trans hw3)
  have q0 := hw3.keep (hwq.keep q0)
  have q1 := hw3.keep (hwq.keep q1)
  obtain ⟨wb, hwb⟩ : ∃ wb : World, wb = w3 := ⟨_, rfl⟩
  subst hwb
  clear hw hwq hw3 hv hju
  refine wpX_stepS rfl (by kernel_rfl) (fun K hK wq hwq => ?_)
  go_simp
  refine (srk_impl _ _ a av c cv vs pluW n rfl (hR.ext (hw0.trans hwq)) (hRw.ext hwq) pluG h0).mono ?_
  rintro e w4 ⟨v, rfl, hv4, hw4⟩
  refine ⟨hw4, hK _ _ ?_⟩
  clear hK K
  obtain ⟨as', cs', rfl, _, hRs, hju⟩ := hv4.fr
  rw [srk_len]
  have hw := hw0.trans (hwq.trans hw4)
  have q0 := hw4.keep (hwq.keep q0)
  have q1 := hw4.keep (hwq.keep q1)
  clear hw0 hwq hw4 hv4 hju hRw
  repeat' (refine wpX_stepQ (fun K hK => ?_)
           go_simp
           try (rw [if_neg (by intro h; simp [undef] at h)])
           try split
           all_goals
             first
             | (refine hK _ ?_
                clear hK K)
             | (apply Exists.intro
                refine ⟨fun wq hwq => ?_, hK _ ?_⟩
                · have hcq := hwq.cellS
                  go_simp
                  first
                  | exact ⟨Ext.refl _, rfl⟩
                clear hK K))
  refine wpX_nil (fun wz hwz => ?_)
  have hw := hw.trans hwz
  have q0 := hwz.keep q0
  have q1 := hwz.keep q1
  have hRs := hRs.ext hwz
  obtain ⟨wc, hwc⟩ : ∃ wc : World, wc = wz := ⟨_, rfl⟩
  subst hwc
  clear hwz
  have hl := srk_len (scoV pluW vs) n
  obtain ⟨x, hx⟩ := at_of_lt (xs := srk (scoV pluW vs) n) (k := 0) (by omega)
  obtain ⟨y, hy⟩ := at_of_lt (xs := srk (scoV pluW vs) n) (k := 1) (by omega)
  have HV := hide (run_two h0 hn hx hy)
  have hxy : x ≠ y := fun e => by
    rw [← e] at hy
    exact absurd (nodup_inj (srk_nodup _ _) hx hy) (by decide)
  obtain ⟨b, off, rfl, c0⟩ := hRs.at_ hx
  obtain ⟨b2, off2, hb, c1⟩ := hRs.at_ hy
  injection hb with hb
  injection hb with hb hb2
  subst hb
  subst hb2
  rw [Nat.add_zero] at c0
  have i1 : 0 < n := by omega
  have i2 : 1 < n := by omega
  have i3 : (1 : Int) < (n : Int) := by omega
  have i4 : (0 : Int) < (n : Int) := by omega
  clear hl hx hy
  rcases (show x < y ∨ y < x by omega) with hlt | hlt
  · have e1 : min x y = x := by omega
    have e2 : max x y = y := by omega
    rw [e1, e2] at HV
    clear e1 e2
    have t1 : ¬ y < x := by omega
    have t2 : x ≤ y := by omega
    have t3 : ¬ y ≤ x := by omega
    cases hb : beatsV vs y x
    all_goals
      go_wp2
      refine wp_region_X (by kernel_rfl) (by kernel_rfl) ?_
      repeat' (refine wpX_stepQ (fun K hK => ?_)
               go_simp
               try (rw [if_neg (by intro h; simp [undef] at h)])
               try split
               all_goals
                 first
                 | (refine hK _ ?_
                    clear hK K)
                 | (apply Exists.intro
                    refine ⟨fun wq hwq => ?_, hK _ ?_⟩
                    · have hcq := hwq.cellS
                      go_simp
                      first
                      | exact ⟨Ext.refl _, rfl⟩
                    clear hK K))
      all_goals try (exfalso; omega)
      refine wpX_nil (fun wz hwz => ?_)
      have hw := hw.trans hwz
      have q0 := hwz.keep q0
      have q1 := hwz.keep q1
      go_wp2_with (go_at_call 138; refine (beats_impl _ _ _ _ _ _ _ (hR.ext (by repeat (first | exact Ext.refl _ | assumption | refine Ext.alloc ?_ _ | refine Ext.drew ?_ | refine Ext.trans ?_ (by assumption)))) HS.out).mono ?_; rintro e w1 ⟨rfl, hw1⟩)
      go_ret
      rw [HV.out, hb]
      exact ⟨rfl, (by repeat (first | exact Ext.refl _ | assumption | refine Ext.alloc ?_ _ | refine Ext.drew ?_ | refine Ext.trans ?_ (by assumption)))⟩
  · have e1 : min x y = y := by omega
    have e2 : max x y = x := by omega
    rw [e1, e2] at HV
    clear e1 e2
    have t1 : ¬ x < y := by omega
    have t2 : y ≤ x := by omega
    have t3 : ¬ x ≤ y := by omega
    cases hb : beatsV vs x y
    all_goals
      go_wp2
      refine wp_region_X (by kernel_rfl) (by kernel_rfl) ?_
      repeat' (refine wpX_stepQ (fun K hK => ?_)
               go_simp
               try (rw [if_neg (by intro h; simp [undef] at h)])
               try split
               all_goals
                 first
                 | (refine hK _ ?_
                    clear hK K)
                 | (apply Exists.intro
                    refine ⟨fun wq hwq => ?_, hK _ ?_⟩
                    · have hcq := hwq.cellS
                      go_simp
                      first
                      | exact ⟨Ext.refl _, rfl⟩
                    clear hK K))
      all_goals try (exfalso; omega)
      refine wpX_nil (fun wz hwz => ?_)
      have hw := hw.trans hwz
      have q0 := hwz.keep q0
      have q1 := hwz.keep q1
      go_wp2_with (go_at_call 138; refine (beats_impl _ _ _ _ _ _ _ (hR.ext (by repeat (first | exact Ext.refl _ | assumption | refine Ext.alloc ?_ _ | refine Ext.drew ?_ | refine Ext.trans ?_ (by assumption)))) HS.out).mono ?_; rintro e w1 ⟨rfl, hw1⟩)
      go_ret
      rw [HV.out, hb]
      exact ⟨rfl, (by repeat (first | exact Ext.refl _ | assumption | refine Ext.alloc ?_ _ | refine Ext.drew ?_ | refine Ext.trans ?_ (by assumption)))⟩

/-- The last one of a list, or -1. -/
def lastI (xs : List Int) : Int := xs.getLast?.getD (-1)
/-- Who wins by a rule. -/
noncomputable def winL (rule : Int) (n : Nat) (vs : List Vt) : List Int :=
  if rule = 1 then bestL (rowL n (scoV pluW vs)) else
  if rule = 2 then bestL (rowL n (scoV (borW n) vs)) else
  if rule = 3 then bestL (rowL n (scoV (vetW n) vs)) else
  if rule = 4 then bestL (copeO n vs) else
  if rule = 5 then bestL (maxiO n vs) else
  if rule = 6 then [runO n vs] else
  if rule = 7 then [lastI (elimO n vs (worF vs))] else
  if rule = 8 then [lastI (elimO n vs (worL vs))] else
  if rule = 9 then [lastI (elimO n vs (worP vs))] else
  if rule = 10 then [bukO n vs] else
  if rule = 11 then schO n vs else
  if rule = 12 then (prkO n vs).take 1 else
  if rule = 13 then (kemO n vs).take 1 else []
noncomputable def winO (rule sz : Int) (vs : List Vt) : List Int := if profOk sz vs then winL rule sz.toNat vs else []
noncomputable def winB (rule sz : Int) (vs : List Vt) : Int := (winO rule sz vs).headD (-1)
set_option maxRecDepth 100000 in
theorem len_if {c : Prop} [Decidable c] {xs ys : List Int} (hx : xs.length ≤ 5) (hy : ys.length ≤ 5) : (if c then xs else ys).length ≤ 5 := by split <;> assumption
set_option maxRecDepth 100000 in
theorem winO_len (rule sz : Int) (vs : List Vt) : (winO rule sz vs).length ≤ 5 := by
  unfold winO
  cases h0 : profOk sz vs
  · simp
  · obtain ⟨n, rfl, n1, n2⟩ := prof_nat h0
    have hb : ∀ xs : List Int, (bestL xs).length ≤ xs.length := fun xs => upL_len _ _
    have h1 := hb (rowL n (scoV pluW vs))
    have h2 := hb (rowL n (scoV (borW n) vs))
    have h3 := hb (rowL n (scoV (vetW n) vs))
    have h4 := hb (copeO n vs)
    have h5 := hb (maxiO n vs)
    have h6 := copeO_len n vs
    have h7 := maxiO_len n vs
    have h8 := schO_len n vs
    rw [rowL_len] at h1 h2 h3
    simp only [if_true, Int.toNat_natCast]
    unfold winL
    repeat' (first | exact h8 | apply len_if)
    all_goals first | omega | (simp; done) | (rw [List.length_take]; omega) | (simp; omega)

set_option maxRecDepth 100000 in
theorem best_head {n : Nat} {f : Nat → Int} (n1 : 1 ≤ n) : ∃ a : Nat, a < n ∧ ∃ r, bestL (rowL n f) = (a : Int) :: r := by
  obtain ⟨i, r, h1, _, h2, _⟩ := best_first (xs := rowL n f) (by rw [rowL_len]; exact n1)
  rw [rowL_len] at h2
  exact ⟨i, h2, r, h1⟩
set_option maxRecDepth 100000 in
theorem lastI_snoc (xs : List Int) (x : Int) : lastI (xs ++ [x]) = x := by simp [lastI]
set_option maxRecDepth 100000 in
theorem elim_last {n : Nat} (n1 : 1 ≤ n) (W : List Int → Int → Int) : ∃ a : Nat, a < n ∧ lastI (elimL n W n) = a := by
  obtain ⟨k, rfl⟩ : ∃ k, n = k + 1 := ⟨n - 1, by omega⟩
  have hl := leftL_elim (n := k + 1) W k (by omega)
  have hne : leftL (k + 1) (elimL (k + 1) W k) ≠ [] := fun e => by rw [e, List.length_nil] at hl; omega
  have hm := pickV_mem (f := W (leftL (k + 1) (elimL (k + 1) W k))) hne
  obtain ⟨i, hi, _, e⟩ := leftL_mem.1 hm
  exact ⟨i, hi, by rw [elimL, lastI_snoc]; exact e⟩
set_option maxRecDepth 100000 in
theorem next_lt {kept : List (List Int)} {n : Nat} (n1 : 1 ≤ n) (out : List Int) : ∃ a : Nat, a < n ∧ nextV kept n out = a := by
  unfold nextV
  split
  · rename_i i hi
    exact ⟨i, List.mem_range.1 (List.mem_of_find?_eq_some hi), rfl⟩
  · exact ⟨0, n1, rfl⟩
set_option maxRecDepth 100000 in
theorem prL_mem {kept : List (List Int)} {n : Nat} (n1 : 1 ≤ n) : ∀ k, ∀ x ∈ prL kept n k, ∃ a : Nat, a < n ∧ x = a
  | 0, x, h => by simp [prL] at h
  | k + 1, x, h => by
    rw [prL, List.mem_append] at h
    rcases h with h | h
    · exact prL_mem n1 k x h
    · rw [List.mem_singleton] at h
      subst h
      exact next_lt n1 _
set_option maxRecDepth 100000 in
theorem take_one {xs : List Int} {n : Nat} (h1 : 1 ≤ xs.length) (h : ∀ x ∈ xs, ∃ a : Nat, a < n ∧ x = a) : ∃ a : Nat, a < n ∧ ∃ r, xs.take 1 = (a : Int) :: r := by
  cases xs with
  | nil => simp at h1
  | cons x xs =>
    obtain ⟨a, ha, rfl⟩ := h x (by simp)
    exact ⟨a, ha, [], rfl⟩
set_option maxRecDepth 100000 in
theorem run_lt {n : Nat} {vs : List Vt} (h0 : profOk n vs = true) : ∃ a : Nat, a < n ∧ runO n vs = a := by
  have hsz := prof_size h0
  by_cases hn : n = 1
  · exact ⟨0, by omega, by rw [run_one h0 hn]; rfl⟩
  · have hl := srk_len (scoV pluW vs) n
    obtain ⟨x, hx⟩ := at_of_lt (xs := srk (scoV pluW vs) n) (k := 0) (by omega)
    obtain ⟨y, hy⟩ := at_of_lt (xs := srk (scoV pluW vs) n) (k := 1) (by omega)
    rw [run_two h0 hn hx hy]
    obtain ⟨i, hi, rfl⟩ := srk_mem (List.mem_of_getElem? hx)
    obtain ⟨j, hj, rfl⟩ := srk_mem (List.mem_of_getElem? hy)
    split
    · exact ⟨max i j, by omega, by omega⟩
    · exact ⟨min i j, by omega, by omega⟩
set_option maxRecDepth 100000 in
theorem elimO_eq {n : Nat} {vs : List Vt} (h0 : profOk n vs = true) (W : List Int → Int → Int) : elimO n vs W = elimL n W n := by unfold elimO; rw [if_pos h0, Int.toNat_natCast]
set_option maxRecDepth 100000 in
/-- The first of the winners is a candidate. -/
theorem win_some {rule : Int} {n : Nat} {vs : List Vt} (h0 : profOk n vs = true) (r1 : 1 ≤ rule) (r2 : rule ≤ 13) : ∃ a : Nat, a < n ∧ ∃ r, winL rule n vs = (a : Int) :: r := by
  have hsz := prof_size h0
  have n1 : 1 ≤ n := by omega
  have n2 : n ≤ 5 := by omega
  have one : ∀ {x : Int}, (∃ a : Nat, a < n ∧ x = a) → ∃ a : Nat, a < n ∧ ∃ r, [x] = (a : Int) :: r := fun {x} h => by
    obtain ⟨a, ha, rfl⟩ := h
    exact ⟨a, ha, [], rfl⟩
  have hr : rule = 1 ∨ rule = 2 ∨ rule = 3 ∨ rule = 4 ∨ rule = 5 ∨ rule = 6 ∨ rule = 7 ∨ rule = 8 ∨ rule = 9 ∨ rule = 10 ∨ rule = 11 ∨ rule = 12 ∨ rule = 13 := by omega
  rcases hr with rfl | rfl | rfl | rfl | rfl | rfl | rfl | rfl | rfl | rfl | rfl | rfl | rfl
  · show ∃ a : Nat, a < n ∧ ∃ r, bestL (rowL n (scoV pluW vs)) = (a : Int) :: r
    exact best_head n1
  · show ∃ a : Nat, a < n ∧ ∃ r, bestL (rowL n (scoV (borW n) vs)) = (a : Int) :: r
    exact best_head n1
  · show ∃ a : Nat, a < n ∧ ∃ r, bestL (rowL n (scoV (vetW n) vs)) = (a : Int) :: r
    exact best_head n1
  · show ∃ a : Nat, a < n ∧ ∃ r, bestL (copeO n vs) = (a : Int) :: r
    unfold copeO
    rw [if_pos h0, Int.toNat_natCast]
    exact best_head n1
  · show ∃ a : Nat, a < n ∧ ∃ r, bestL (maxiO n vs) = (a : Int) :: r
    unfold maxiO
    rw [if_pos h0, Int.toNat_natCast]
    exact best_head n1
  · show ∃ a : Nat, a < n ∧ ∃ r, [runO n vs] = (a : Int) :: r
    exact one (run_lt h0)
  · show ∃ a : Nat, a < n ∧ ∃ r, [lastI (elimO n vs (worF vs))] = (a : Int) :: r
    rw [elimO_eq h0]
    exact one (elim_last n1 _)
  · show ∃ a : Nat, a < n ∧ ∃ r, [lastI (elimO n vs (worL vs))] = (a : Int) :: r
    rw [elimO_eq h0]
    exact one (elim_last n1 _)
  · show ∃ a : Nat, a < n ∧ ∃ r, [lastI (elimO n vs (worP vs))] = (a : Int) :: r
    rw [elimO_eq h0]
    exact one (elim_last n1 _)
  · show ∃ a : Nat, a < n ∧ ∃ r, [bukO n vs] = (a : Int) :: r
    refine one ?_
    unfold bukO
    rw [if_pos h0, Int.toNat_natCast]
    obtain ⟨a, ha, r, e⟩ := best_head (f := wthV vs (levV n vs)) n1
    exact ⟨a, ha, by rw [e]; rfl⟩
  · show ∃ a : Nat, a < n ∧ ∃ r, schO n vs = (a : Int) :: r
    have hne := sch_ne h0
    cases h : schO n vs with
    | nil => exact absurd h hne
    | cons x r =>
      obtain ⟨a, ha, e, _⟩ := (sch_mem h0 (x := x)).1 (by rw [h]; simp)
      exact ⟨a, ha, r, by rw [e]⟩
  · show ∃ a : Nat, a < n ∧ ∃ r, (prkO n vs).take 1 = (a : Int) :: r
    have e : prkO n vs = prL (lokO n vs) n n := by unfold prkO; rw [if_pos h0, Int.toNat_natCast]
    rw [e]
    exact take_one (by rw [prL_len]; exact n1) (prL_mem n1 n)
  · show ∃ a : Nat, a < n ∧ ∃ r, (kemO n vs).take 1 = (a : Int) :: r
    have e : kemO n vs = (lstR (kemV vs) n).1 := by simp [kemO, lstO, h0]
    rw [e]
    have hm := (allO_mem n1 n2).1 (lstR_mem (cost := kemV vs) n1 n2).1
    exact take_one (by have := (rk_len hm).1; omega) (fun x hx => by
      have := rk_mem hm hx
      exact ⟨x.toNat, by omega, by omega⟩)
set_option maxRecDepth 100000 in
theorem winO_eq {rule : Int} {n : Nat} {vs : List Vt} (h0 : profOk n vs = true) : winO rule n vs = winL rule n vs := by unfold winO; rw [if_pos h0, Int.toNat_natCast]
set_option maxRecDepth 100000 in
theorem winB_some {rule : Int} {n : Nat} {vs : List Vt} (h0 : profOk n vs = true) (r1 : 1 ≤ rule) (r2 : rule ≤ 13) : ∃ a : Nat, a < n ∧ winB rule n vs = a := by
  obtain ⟨a, ha, r, e⟩ := win_some h0 r1 r2
  exact ⟨a, ha, by unfold winB; rw [winO_eq h0, e]; rfl⟩
set_option maxRecDepth 100000 in
theorem winL_out {rule : Int} {n : Nat} {vs : List Vt} (h : ¬ (1 ≤ rule ∧ rule ≤ 13)) : winL rule n vs = [] := by
  unfold winL
  repeat rw [if_neg (by omega)]
set_option maxRecDepth 100000 in
/-- Where somebody wins there is a profile and a rule. -/
theorem winB_pos {rule sz : Int} {vs : List Vt} (h : 0 ≤ winB rule sz vs) : profOk sz vs = true ∧ 1 ≤ rule ∧ rule ≤ 13 := by
  unfold winB winO at h
  cases h0 : profOk sz vs
  · rw [h0] at h; simp at h
  · refine ⟨rfl, ?_⟩
    by_cases hr : 1 ≤ rule ∧ rule ≤ 13
    · exact hr
    · rw [h0, if_pos rfl, winL_out hr] at h
      simp at h

end Go.Proofs.Ythiojkpoeejkaaa
