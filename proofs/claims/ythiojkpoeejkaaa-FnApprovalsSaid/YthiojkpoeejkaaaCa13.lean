/- What FnApprovals says of approvals (plain law): the best committee and the one that covers most leave out no group that is due a member. The library's searches over integers with a function. -/
import Derived.Test.YthiojkpoeejkaaaCa10
import Derived.Test.YthiojkpoeejkaaaCa11
import Derived.Test.YthiojkpoeejkaaaCa12
import Derived.Test.YthiojkpoeejkaaaCa2
namespace Go.Proofs.Ythiojkpoeejkaaa
open Go.RowKit

set_option maxRecDepth 100000 in
/-- Sums over a list, member by member. -/
theorem sumL_add {f g : Nat → Int} : ∀ xs : List Nat, (xs.map (fun i => f i + g i)).sum = (xs.map f).sum + (xs.map g).sum
  | [] => rfl
  | x :: xs => by
    have := sumL_add (f := f) (g := g) xs
    simp only [List.map_cons, List.sum_cons]
    omega
set_option maxRecDepth 100000 in
theorem sumL_mul {f : Nat → Int} (c : Int) : ∀ xs : List Nat, (xs.map (fun i => c * f i)).sum = c * (xs.map f).sum
  | [] => by simp
  | x :: xs => by
    have := sumL_mul (f := f) c xs
    simp only [List.map_cons, List.sum_cons, Int.mul_add]
    omega
set_option maxRecDepth 100000 in
theorem sumL_le {f : Nat → Int} {c : Int} : ∀ {xs : List Nat}, (∀ i ∈ xs, f i ≤ c) → (xs.map f).sum ≤ c * xs.length
  | [], _ => by simp
  | x :: xs, h => by
    have h1 := sumL_le (xs := xs) (fun i hi => h i (List.mem_cons_of_mem _ hi))
    have h2 := h x List.mem_cons_self
    have h3 : c * ((xs.length : Int) + 1) = c * xs.length + c := by rw [Int.mul_add, Int.mul_one]
    simp only [List.map_cons, List.sum_cons, List.length_cons]
    push_cast
    omega
set_option maxRecDepth 100000 in
theorem sumIf_cons (p : Int → Bool) (x : Int × Int) (bs : List (Int × Int)) : sumIf p (x :: bs) = (if p x.1 then x.2 else 0) + sumIf p bs := by
  unfold sumIf
  cases h : p x.1 <;> simp [h]
set_option maxRecDepth 100000 in
theorem sumM_cons {α : Type} (f : α → Int) (x : α) (xs : List α) : sumM f (x :: xs) = f x + sumM f xs := by simp [sumM]

/-- The worth of j members, in sixtieths. -/
def hI (j : Nat) : Int := if j = 0 then 0 else if j = 1 then 60 else if j = 2 then 90 else if j = 3 then 110 else if j = 4 then 125 else if j = 5 then 137 else 147
set_option maxRecDepth 100000 in
theorem harm_hI (c : Int) {j : Nat} (hj : j ≤ 6) : harm c j = c * hI j := by
  have : j = 0 ∨ j = 1 ∨ j = 2 ∨ j = 3 ∨ j = 4 ∨ j = 5 ∨ j = 6 := by omega
  rcases this with rfl | rfl | rfl | rfl | rfl | rfl | rfl <;> simp [harm, hI] <;> omega
/-- How many members a set has. -/
def cN (s : Nat) : Nat := (List.range 6).countP (fun a => s.testBit a)
set_option maxRecDepth 100000 in
theorem cnt_cN (s : Nat) : cntTo (s : Int) 6 = cN s := rfl
set_option maxRecDepth 100000 in
theorem cN_le (s : Nat) : cN s ≤ 6 := by
  unfold cN
  have h := List.countP_le_length (p := fun a => s.testBit a) (l := List.range 6)
  rwa [List.length_range] at h
/-- The members of a set. -/
def memN (s : Nat) : List Nat := (List.range 5).filter (fun a => s.testBit a)
/-- A set with a member replaced by another candidate. -/
def swN (b x a : Nat) : Nat := (b ^^^ 2 ^ x) ||| 2 ^ a
set_option maxRecDepth 1000000 in
theorem sw_fin : ∀ b, b < 32 → (memN b).length = cN b ∧ ∀ a, a < 5 → b.testBit a = false → ∀ x ∈ memN b, cN (swN b x a) = cN b ∧ swN b x a < 32 := by decide +kernel
set_option maxRecDepth 1000000 in
theorem sw_lt : ∀ n, n < 6 → ∀ b, b < 2 ^ n → ∀ a, a < n → ∀ x ∈ memN b, swN b x a < 2 ^ n := by decide +kernel
set_option maxRecDepth 1000000 in
theorem pav_fin : ∀ b, b < 32 → ∀ s, s < 32 → ∀ a, a < 5 → b.testBit a = false → (cN b : Int) * hI (cN (s &&& b)) + 60 * cN b * (if s.testBit a && s &&& b == 0 then 1 else 0) ≤ ((memN b).map (fun x => hI (cN (s &&& swN b x a)))).sum + 60 * (if s &&& b != 0 then 1 else 0) := by decide +kernel
set_option maxRecDepth 1000000 in
theorem cov_fin : ∀ b, b < 32 → ∀ s, s < 32 → ∀ a, a < 5 → b.testBit a = false → (cN b : Int) * (if s &&& b != 0 then 1 else 0) + cN b * (if s.testBit a && s &&& b == 0 then 1 else 0) ≤ ((memN b).map (fun x => if s &&& swN b x a != 0 then (1 : Int) else 0)).sum + (if s &&& b != 0 then 1 else 0) := by decide +kernel
set_option maxRecDepth 1000000 in
theorem and_fin : ∀ n, n < 6 → ∀ b, b < 2 ^ n → ∀ s, s < 2 ^ n → (((List.range n).map (fun a => if b.testBit a && s.testBit a then (1 : Int) else 0)).sum = cN (s &&& b)) := by decide +kernel

set_option maxRecDepth 100000 in
theorem pow_int (n : Nat) : ((2 : Int) ^ n) = ((2 ^ n : Nat) : Int) := by simp
set_option maxRecDepth 100000 in
theorem top_nat {n : Nat} : topOf (n : Int) + 1 = ((2 ^ n : Nat) : Int) := by
  unfold topOf
  rw [Int.toNat_natCast, pow_int]
  omega
set_option maxRecDepth 100000 in
/-- A ballot of approvals of n candidates. -/
theorem bal_nat {n : Nat} {bs : List (Int × Int)} (h : appOk n bs = true) {x : Int × Int} (hx : x ∈ bs) : ∃ s : Nat, x.1 = s ∧ s < 2 ^ n ∧ 1 ≤ x.2 := by
  obtain ⟨h1, h2, _, h3, _⟩ := ok_at h hx
  have ht : topOf (n : Int) + 1 = ((2 ^ n : Nat) : Int) := top_nat
  exact ⟨x.1.toNat, by omega, by omega, h3⟩
set_option maxRecDepth 100000 in
theorem p5 {n : Nat} (n5 : n ≤ 5) : 2 ^ n ≤ 32 := by
  have : n = 0 ∨ n = 1 ∨ n = 2 ∨ n = 3 ∨ n = 4 ∨ n = 5 := by omega
  rcases this with rfl | rfl | rfl | rfl | rfl | rfl <;> decide
/-- All ballots are small sets. -/
def SmN (n : Nat) (bs : List (Int × Int)) : Prop := ∀ x ∈ bs, ∃ s : Nat, x.1 = s ∧ s < 2 ^ n ∧ 1 ≤ x.2
set_option maxRecDepth 100000 in
theorem one_sc {s b : Nat} {x : Int × Int} (e : x.1 = s) (hs : s < 32) (hb : b < 32) : scOne (b : Int) x = x.2 * hI (cN (s &&& b)) := by
  unfold scOne
  rw [e, landI_nat s b (by omega) (by omega), cnt_cN, Int.toNat_natCast, harm_hI _ (cN_le _)]
set_option maxRecDepth 100000 in
theorem one_bit {s a : Nat} : bitAt (s : Int) a = s.testBit a := rfl
set_option maxRecDepth 100000 in
theorem one_land {s b : Nat} (hs : s < 32) (hb : b < 32) : (landI (b : Int) (s : Int) == 0) = (s &&& b == 0) := by
  rw [landI_comm, landI_nat s b (by omega) (by omega), Bool.eq_iff_iff, beq_iff_eq, beq_iff_eq]
  omega
set_option maxRecDepth 100000 in
theorem one_nland {s b : Nat} (hs : s < 32) (hb : b < 32) : (landI (b : Int) (s : Int) != 0) = (s &&& b != 0) := by
  show (!(landI (b : Int) (s : Int) == 0)) = !(s &&& b == 0)
  rw [one_land hs hb]

set_option maxRecDepth 100000 in
theorem pav_swap {n b a : Nat} (n5 : n ≤ 5) (hb : b < 2 ^ n) (ha : a < n) (hba : b.testBit a = false) : ∀ {bs : List (Int × Int)}, SmN n bs →
    (cN b : Int) * scoreOf bs b + 60 * cN b * cntJ bs b a ≤ ((memN b).map (fun x => scoreOf bs (swN b x a : Nat))).sum + 60 * coverOf bs b
  | [], _ => by
    have : ((memN b).map (fun x => scoreOf [] (swN b x a : Nat))).sum = 0 := by
      have h := sumL_mul (f := fun _ => (0 : Int)) 0 (memN b)
      simpa [scoreOf, sumM] using h
    rw [this]
    simp [scoreOf, sumM, cntJ, coverOf, sumIf]
  | x :: bs, h => by
    have ih := pav_swap n5 hb ha hba (bs := bs) (fun y hy => h y (List.mem_cons_of_mem _ hy))
    obtain ⟨s, e, hs, hc⟩ := h x List.mem_cons_self
    have hp := p5 n5
    have hb5 : b < 32 := by omega
    have hs5 : s < 32 := by omega
    have hf := Int.mul_le_mul_of_nonneg_left (pav_fin b hb5 s hs5 a (by omega) hba) (show 0 ≤ x.2 by omega)
    have e1 : ((memN b).map (fun i => scoreOf (x :: bs) (swN b i a : Nat))).sum = x.2 * ((memN b).map (fun i => hI (cN (s &&& swN b i a)))).sum + ((memN b).map (fun i => scoreOf bs (swN b i a : Nat))).sum := by
      rw [← sumL_mul, ← sumL_add]
      refine congrArg List.sum (List.map_congr_left (fun i hi => ?_))
      unfold scoreOf
      rw [sumM_cons, one_sc e hs5 (((sw_fin b hb5).2 a (by omega) hba i hi).2)]
    have e2 : scoreOf (x :: bs) b = x.2 * hI (cN (s &&& b)) + scoreOf bs b := by
      unfold scoreOf
      rw [sumM_cons, one_sc e hs5 hb5]
    have e3 : cntJ (x :: bs) b a = x.2 * (if s.testBit a && s &&& b == 0 then 1 else 0) + cntJ bs b a := by
      unfold cntJ
      rw [sumIf_cons, e, one_bit, one_land hs5 hb5]
      split <;> simp
    have e4 : coverOf (x :: bs) b = x.2 * (if s &&& b != 0 then 1 else 0) + coverOf bs b := by
      unfold coverOf
      rw [sumIf_cons, e, one_nland hs5 hb5]
      split <;> simp
    rw [e1, e2, e3, e4]
    generalize ((memN b).map (fun i => hI (cN (s &&& swN b i a)))).sum = A at hf ⊢
    generalize ((memN b).map (fun i => scoreOf bs (swN b i a : Nat))).sum = B at ih ⊢
    generalize (if s.testBit a && s &&& b == 0 then (1 : Int) else 0) = C at hf ⊢
    generalize (if s &&& b != 0 then (1 : Int) else 0) = D at hf ⊢
    generalize hI (cN (s &&& b)) = E at hf ⊢
    generalize scoreOf bs b = F at ih ⊢
    generalize cntJ bs b a = G at ih ⊢
    generalize coverOf bs b = H at ih ⊢
    generalize (cN b : Int) = k at hf ih ⊢
    generalize x.2 = c at hf ⊢
    grind
set_option maxRecDepth 100000 in
theorem cov_swap {n b a : Nat} (n5 : n ≤ 5) (hb : b < 2 ^ n) (ha : a < n) (hba : b.testBit a = false) : ∀ {bs : List (Int × Int)}, SmN n bs →
    (cN b : Int) * coverOf bs b + cN b * cntJ bs b a ≤ ((memN b).map (fun x => coverOf bs (swN b x a : Nat))).sum + coverOf bs b
  | [], _ => by
    have : ((memN b).map (fun x => coverOf [] (swN b x a : Nat))).sum = 0 := by
      have h := sumL_mul (f := fun _ => (0 : Int)) 0 (memN b)
      simpa [coverOf, sumIf] using h
    rw [this]
    simp [cntJ, coverOf, sumIf]
  | x :: bs, h => by
    have ih := cov_swap n5 hb ha hba (bs := bs) (fun y hy => h y (List.mem_cons_of_mem _ hy))
    obtain ⟨s, e, hs, hc⟩ := h x List.mem_cons_self
    have hp := p5 n5
    have hb5 : b < 32 := by omega
    have hs5 : s < 32 := by omega
    have hf := Int.mul_le_mul_of_nonneg_left (cov_fin b hb5 s hs5 a (by omega) hba) (show 0 ≤ x.2 by omega)
    have e1 : ((memN b).map (fun i => coverOf (x :: bs) (swN b i a : Nat))).sum = x.2 * ((memN b).map (fun i => if s &&& swN b i a != 0 then (1 : Int) else 0)).sum + ((memN b).map (fun i => coverOf bs (swN b i a : Nat))).sum := by
      rw [← sumL_mul, ← sumL_add]
      refine congrArg List.sum (List.map_congr_left (fun i hi => ?_))
      unfold coverOf
      rw [sumIf_cons, e, one_nland hs5 (((sw_fin b hb5).2 a (by omega) hba i hi).2)]
      split <;> simp
    have e3 : cntJ (x :: bs) b a = x.2 * (if s.testBit a && s &&& b == 0 then 1 else 0) + cntJ bs b a := by
      unfold cntJ
      rw [sumIf_cons, e, one_bit, one_land hs5 hb5]
      split <;> simp
    have e4 : coverOf (x :: bs) b = x.2 * (if s &&& b != 0 then 1 else 0) + coverOf bs b := by
      unfold coverOf
      rw [sumIf_cons, e, one_nland hs5 hb5]
      split <;> simp
    rw [e1, e3, e4]
    generalize ((memN b).map (fun i => if s &&& swN b i a != 0 then (1 : Int) else 0)).sum = A at hf ⊢
    generalize ((memN b).map (fun i => coverOf bs (swN b i a : Nat))).sum = B at ih ⊢
    generalize (if s.testBit a && s &&& b == 0 then (1 : Int) else 0) = C at hf ⊢
    generalize (if s &&& b != 0 then (1 : Int) else 0) = D at hf ⊢
    generalize cntJ bs b a = G at ih ⊢
    generalize coverOf bs b = H at ih ⊢
    generalize (cN b : Int) = k at hf ih ⊢
    generalize x.2 = c at hf ⊢
    grind
set_option maxRecDepth 100000 in
/-- Who is covered, and who is of the group, are different voters. -/
theorem cov_all {n b a : Nat} (n5 : n ≤ 5) (hb : b < 2 ^ n) : ∀ {bs : List (Int × Int)}, SmN n bs → coverOf bs b + cntJ bs b a ≤ allA bs
  | [], _ => by simp [cntJ, coverOf, allA, sumIf]
  | x :: bs, h => by
    have ih := cov_all (a := a) n5 hb (bs := bs) (fun y hy => h y (List.mem_cons_of_mem _ hy))
    obtain ⟨s, e, hs, hc⟩ := h x List.mem_cons_self
    have hp := p5 n5
    unfold coverOf cntJ allA at ih ⊢
    rw [sumIf_cons, sumIf_cons, sumIf_cons, e, one_bit, one_land (by omega) (by omega), one_nland (by omega) (by omega)]
    have : (s &&& b != 0) = !(s &&& b == 0) := rfl
    rw [this]
    cases (s &&& b == 0) <;> cases s.testBit a <;> simp <;> omega
set_option maxRecDepth 100000 in
theorem all_zero {bs : List (Int × Int)} {n : Nat} (h : SmN n bs) (p : Int → Bool) : 0 ≤ sumIf p bs := by
  induction bs with
  | nil => simp [sumIf]
  | cons x bs ih =>
    have ih := ih (fun y hy => h y (List.mem_cons_of_mem _ hy))
    obtain ⟨s, e, hs, hc⟩ := h x List.mem_cons_self
    rw [sumIf_cons]
    split <;> omega
set_option maxRecDepth 100000 in
/-- A group is not in the committee. -/
theorem cnt_out {n b a : Nat} (n5 : n ≤ 5) (hb : b < 2 ^ n) : ∀ {bs : List (Int × Int)}, SmN n bs → 1 ≤ cntJ bs b a → b.testBit a = false
  | [], _, h => by simp [cntJ, sumIf] at h
  | x :: bs, hS, h => by
    obtain ⟨s, e, hs, hc⟩ := hS x List.mem_cons_self
    have hp := p5 n5
    unfold cntJ at h
    rw [sumIf_cons, e, one_bit, one_land (by omega) (by omega)] at h
    by_cases h2 : (s.testBit a && s &&& b == 0) = true
    · rw [Bool.and_eq_true, beq_iff_eq] at h2
      have h3 : (s &&& b).testBit a = false := by rw [h2.2]; simp
      rw [Nat.testBit_and, h2.1, Bool.true_and] at h3
      exact h3
    · rw [if_neg h2, Int.zero_add] at h
      exact cnt_out n5 hb (fun y hy => hS y (List.mem_cons_of_mem _ hy)) h

set_option maxRecDepth 100000 in
theorem appN {n : Nat} {bs : List (Int × Int)} (h : appOk n bs = true) : SmN n bs := fun _ hx => bal_nat h hx
set_option maxRecDepth 100000 in
theorem comm_nat {n : Nat} {bs : List (Int × Int)} (h : appOk n bs = true) {k : Int} (hk : inR k 1 n = true) {x : Int} : x ∈ commOf n bs k ↔ ∃ b : Nat, x = b ∧ b < 2 ^ n ∧ (cN b : Int) = k := by
  unfold commOf
  rw [h, hk, Bool.and_self, if_pos rfl, show (topOf (n : Int) + 1).toNat = 2 ^ n by rw [top_nat, Int.toNat_natCast]]
  unfold commTo
  rw [List.mem_filter, List.mem_map]
  constructor
  · rintro ⟨⟨b, hb, rfl⟩, h2⟩
    exact ⟨b, rfl, List.mem_range.1 hb, of_decide_eq_true h2⟩
  · rintro ⟨b, rfl, hb, h2⟩
    exact ⟨⟨b, List.mem_range.2 hb, rfl⟩, decide_eq_true h2⟩
set_option maxRecDepth 100000 in
theorem bestO_ge {f : Int → Int} : ∀ {xs : List Int} {y : Int}, bestO f xs = some y → ∀ x ∈ xs, f x ≤ f y := by
  have key : ∀ (xs : List Int) (b : Option Int) (y : Int), xs.foldl (bestStep f) b = some y → (∀ x ∈ xs, f x ≤ f y) ∧ ∀ z, b = some z → f z ≤ f y := by
    intro xs
    induction xs with
    | nil => intro b y h; exact ⟨fun x hx => by simp at hx, fun z hz => by rw [show b = some y from h] at hz; injection hz with hz; rw [hz]; exact Int.le_refl _⟩
    | cons x xs ih =>
      intro b y h
      rw [List.foldl_cons] at h
      obtain ⟨h1, h2⟩ := ih _ y h
      cases b with
      | none =>
        have h3 := h2 x rfl
        exact ⟨fun z hz => by rcases List.mem_cons.1 hz with rfl | hz; exact h3; exact h1 z hz, fun z hz => by cases hz⟩
      | some b =>
        by_cases hlt : f b < f x
        · have h3 := h2 x (by simp [bestStep, hlt])
          exact ⟨fun z hz => by rcases List.mem_cons.1 hz with rfl | hz; exact h3; exact h1 z hz, fun z hz => by injection hz with hz; subst hz; omega⟩
        · have h3 := h2 b (by simp [bestStep, hlt])
          exact ⟨fun z hz => by rcases List.mem_cons.1 hz with rfl | hz; omega; exact h1 z hz, fun z hz => by injection hz with hz; subst hz; exact h3⟩
  intro xs y h
  exact (key _ none _ h).1
set_option maxRecDepth 1000000 in
theorem size_fin : ∀ n, n < 6 → ∀ k, k ≤ n → cN (2 ^ k - 1) = k ∧ 2 ^ k - 1 < 2 ^ n := by decide +kernel
set_option maxRecDepth 100000 in
/-- The best committee is one, and none is better. -/
theorem bestC_f {n : Nat} {bs : List (Int × Int)} (n5 : n ≤ 5) (h : appOk n bs = true) {k : Nat} (k1 : 1 ≤ k) (kn : k ≤ n) (f : Int → Int) : ∃ b : Nat, bestC f n bs k = b ∧ b < 2 ^ n ∧ cN b = k ∧ ∀ c : Nat, c < 2 ^ n → cN c = k → f c ≤ f b := by
  have hk : inR (k : Int) 1 n = true := inR_iff.2 (by omega)
  unfold bestC
  cases hb : bestO f (commOf n bs k) with
  | none =>
    exfalso
    have h1 := bestO_none hb
    obtain ⟨h2, h3⟩ := size_fin n (by omega) k kn
    have h4 := (comm_nat h hk).2 ⟨2 ^ k - 1, rfl, h3, by rw [h2]⟩
    rw [h1] at h4
    cases h4
  | some y =>
    obtain ⟨b, rfl, hb1, hb2⟩ := (comm_nat h hk).1 ((bestO_congr (f := f) (g := f) (fun _ _ => rfl)).2 y hb)
    exact ⟨b, rfl, hb1, by omega, fun c hc hck => bestO_ge hb _ ((comm_nat h hk).2 ⟨c, rfl, hc, by omega⟩)⟩
set_option maxRecDepth 100000 in
theorem just_of {n b : Nat} {bs : List (Int × Int)} (h : appOk n bs = true) (hb : b < 2 ^ n) (k1 : 1 ≤ cN b) (kn : cN b ≤ n) (hno : ∀ a, a < n → 1 ≤ cntJ bs b a → allA bs ≤ cntJ bs b a * cN b → False) : justOf n bs b (cN b : Nat) = true := by
  unfold justOf justB
  have e1 : inR (b : Int) 0 (topOf n) = true := inR_iff.2 (by have : topOf (n : Int) + 1 = ((2 ^ n : Nat) : Int) := top_nat; omega)
  have e2 : inR ((cN b : Nat) : Int) 1 n = true := inR_iff.2 (by omega)
  rw [h, e1, e2, cnt_cN, beq_self_eq_true]
  simp only [Bool.and_self, Bool.true_and, List.all_eq_true, List.mem_range, Int.toNat_natCast]
  intro a ha
  unfold badJ
  cases e3 : decide (1 ≤ cntJ bs b a) && decide (allA bs ≤ cntJ bs b a * (cN b : Nat))
  · rfl
  · rw [Bool.and_eq_true, decide_eq_true_eq, decide_eq_true_eq] at e3
    exact (hno a ha e3.1 e3.2).elim
set_option maxRecDepth 100000 in
theorem pav_just {n b : Nat} {bs : List (Int × Int)} (n5 : n ≤ 5) (h : appOk n bs = true) (hb : b < 2 ^ n) (k1 : 1 ≤ cN b) (kn : cN b ≤ n) (hm : ∀ c : Nat, c < 2 ^ n → cN c = cN b → scoreOf bs c ≤ scoreOf bs b) : justOf n bs b (cN b : Nat) = true :=
  just_of h hb k1 kn (fun a ha h1 h2 => by
    have hS := appN h
    have hp := p5 n5
    have hba := cnt_out n5 hb hS h1
    have h3 := pav_swap n5 hb ha hba hS
    have h4 := sumL_le (f := fun x => scoreOf bs (swN b x a : Nat)) (xs := memN b) (c := scoreOf bs b) (fun i hi => hm _ (sw_lt n (by omega) b hb a ha i hi) ((sw_fin b (by omega)).2 a (by omega) hba i hi).1)
    rw [(sw_fin b (by omega)).1] at h4
    have h5 := cov_all (a := a) n5 hb hS
    generalize ((memN b).map (fun x => scoreOf bs (swN b x a : Nat))).sum = A at h3 h4
    generalize scoreOf bs b = B at h3 h4
    generalize cntJ bs b a = C at h1 h2 h3 h5
    generalize coverOf bs b = D at h3 h5
    generalize allA bs = E at h2 h5
    have h6 : B * (cN b : Int) = (cN b : Int) * B := Int.mul_comm _ _
    have h7 : C * (cN b : Int) = (cN b : Int) * C := Int.mul_comm _ _
    have h8 : 60 * (cN b : Int) * C = 60 * ((cN b : Int) * C) := Int.mul_assoc _ _ _
    omega)
set_option maxRecDepth 100000 in
theorem cov_just {n b : Nat} {bs : List (Int × Int)} (n5 : n ≤ 5) (h : appOk n bs = true) (hb : b < 2 ^ n) (k1 : 1 ≤ cN b) (kn : cN b ≤ n) (hm : ∀ c : Nat, c < 2 ^ n → cN c = cN b → coverOf bs c ≤ coverOf bs b) : justOf n bs b (cN b : Nat) = true :=
  just_of h hb k1 kn (fun a ha h1 h2 => by
    have hS := appN h
    have hp := p5 n5
    have hba := cnt_out n5 hb hS h1
    have h3 := cov_swap n5 hb ha hba hS
    have h4 := sumL_le (f := fun x => coverOf bs (swN b x a : Nat)) (xs := memN b) (c := coverOf bs b) (fun i hi => hm _ (sw_lt n (by omega) b hb a ha i hi) ((sw_fin b (by omega)).2 a (by omega) hba i hi).1)
    rw [(sw_fin b (by omega)).1] at h4
    have h5 := cov_all (a := a) n5 hb hS
    generalize ((memN b).map (fun x => coverOf bs (swN b x a : Nat))).sum = A at h3 h4
    generalize coverOf bs b = B at h3 h4 h5
    generalize cntJ bs b a = C at h1 h2 h3 h5
    generalize allA bs = E at h2 h5
    have h6 : B * (cN b : Int) = (cN b : Int) * B := Int.mul_comm _ _
    have h7 : C * (cN b : Int) = (cN b : Int) * C := Int.mul_comm _ _
    omega)

set_option maxRecDepth 1000000 in
theorem add_fin : ∀ n, n < 6 → ∀ b, b < 2 ^ n → ∀ a, a < n → b ||| 2 ^ a < 2 ^ n := by decide +kernel
set_option maxRecDepth 100000 in
theorem step_lt {n : Nat} (n5 : n ≤ 5) (bs : List (Int × Int)) : ∀ i, i ≤ n → ∃ s : Nat, stepTo bs n i = s ∧ s < 2 ^ n
  | 0, _ => ⟨0, rfl, Nat.two_pow_pos _⟩
  | i + 1, hi => by
    obtain ⟨s, e, hs⟩ := step_lt n5 bs i (by omega)
    obtain ⟨y, hy⟩ := step_some bs n (by omega) i (by omega)
    obtain ⟨a, ha, _, rfl⟩ := nextTo_mem ((bestO_congr (f := scoreOf bs) (g := scoreOf bs) (fun _ _ => rfl)).2 y hy)
    have hp := p5 n5
    have h1 := addC_nat s a (by omega) (by omega)
    refine ⟨s ||| 2 ^ a, ?_, add_fin n (by omega) s hs a ha⟩
    simp only [stepTo, hy, Option.getD_some]
    rw [e]
    exact h1.1
set_option maxRecDepth 1000000 in
theorem cnt_fin : ∀ n, n < 6 → ∀ b, b < 2 ^ n → cntTo (b : Nat) n = cN b := by decide +kernel
set_option maxRecDepth 100000 in
theorem step_f {n : Nat} {bs : List (Int × Int)} (n5 : n ≤ 5) (h : appOk n bs = true) {k : Nat} (k1 : 1 ≤ k) (kn : k ≤ n) : ∃ s : Nat, stepOf n bs k = s ∧ s < 2 ^ n ∧ cN s = k := by
  obtain ⟨s, e, hs⟩ := step_lt n5 bs k kn
  have h1 := stepTo_inv bs n (by omega) k kn
  have h2 := cnt_fin n (by omega) s hs
  rw [e, h2] at h1
  refine ⟨s, ?_, hs, by omega⟩
  unfold stepOf
  rw [h, show inR (k : Int) 1 n = true from inR_iff.2 (by omega), Bool.and_self, if_pos rfl, Int.toNat_natCast, Int.toNat_natCast, e]
set_option maxRecDepth 1000000 in
theorem one_fin : ∀ n, n < 6 → commTo (2 ^ n) 1 = ((List.range n).filter (fun a => !bitAt 0 a)).map (fun a => ((2 ^ a : Nat) : Int)) := by decide +kernel
set_option maxRecDepth 100000 in
theorem add_zero {a : Nat} (ha : a < 6) : addC 0 a = ((2 ^ a : Nat) : Int) := by
  have h := (addC_nat 0 a (by omega) ha).1
  rw [Nat.zero_or] at h
  exact h
set_option maxRecDepth 100000 in
theorem next_one {n : Nat} (n5 : n ≤ 5) : nextTo 0 n = commTo (2 ^ n) 1 := by
  rw [one_fin n (by omega)]
  unfold nextTo
  refine List.map_congr_left (fun a ha => ?_)
  have := List.mem_range.1 (List.mem_filter.1 ha).1
  exact add_zero (by omega)
set_option maxRecDepth 100000 in
/-- With one member, the step committee is the best one. -/
theorem step_one {n : Nat} {bs : List (Int × Int)} (n1 : 1 ≤ n) (n5 : n ≤ 5) (h : appOk n bs = true) : stepOf n bs 1 = bestC (scoreOf bs) n bs 1 := by
  have hk : inR (1 : Int) 1 n = true := inR_iff.2 (by omega)
  unfold stepOf bestC commOf
  rw [h, hk, Bool.and_self, if_pos rfl, if_pos rfl, show (topOf (n : Int) + 1).toNat = 2 ^ n by rw [top_nat, Int.toNat_natCast], Int.toNat_natCast, ← next_one n5]
  rfl

set_option maxRecDepth 100000 in
/-- The seats of all voters are the approvals of all members. -/
theorem seats_one {b s : Nat} (hs : s < 32) (hb : b < 32) : cntTo (landI (b : Int) (s : Int)) 6 = cN (s &&& b) := by
  rw [landI_comm, landI_nat s b (by omega) (by omega), cnt_cN]
set_option maxRecDepth 100000 in
theorem seats_all {n b : Nat} (n5 : n ≤ 5) (hb : b < 2 ^ n) : ∀ {bs : List (Int × Int)}, SmN n bs → ((List.range n).map (fun a => if b.testBit a then sumIf (fun s => bitAt s a) bs else 0)).sum = sumM (fun x => x.2 * cntTo (landI (b : Int) x.1) 6) bs
  | [], _ => by
    have h := sumL_mul (f := fun _ => (0 : Int)) 0 (List.range n)
    simpa [sumM, sumIf] using h
  | x :: bs, h => by
    have ih := seats_all n5 hb (bs := bs) (fun y hy => h y (List.mem_cons_of_mem _ hy))
    obtain ⟨s, e, hs, hc⟩ := h x List.mem_cons_self
    have hp := p5 n5
    rw [sumM_cons, ← ih, e, seats_one (by omega) (by omega), ← and_fin n (by omega) b hb s hs, ← sumL_mul, ← sumL_add]
    refine congrArg List.sum (List.map_congr_left (fun a _ => ?_))
    rw [sumIf_cons, e, one_bit]
    cases b.testBit a <;> cases s.testBit a <;> simp

set_option maxRecDepth 100000 in
set_option maxHeartbeats 1000000 in
theorem indexFuncI (K : Nat) (fst cap : Array Value) (p : Int → Bool) (w : World) (a : Option Addr) (c : Nat) (xs : List Int) (hR : RdI w a xs) (hl : xs.length ≤ 2000000) (hK : Enters Try.prog K)
    (hf : ∀ (x : Int) (w' : World), x ∈ xs → Ext w w' → Calls Try.prog K (fst.push (.int .i64 x) ++ cap) w' fun e w'' => e = .returned (.bool (p x)) ∧ Ext w' w'') :
    Calls Try.prog 165 #[.slice a xs.length c, .func (.func K) fst cap] w fun e w' => e = .returned (.int .i64 (findI p xs)) ∧ Ext w w' := by
  unfold Enters at hK
  have HF := hide hf
  clear hf
  go_enter Try.func165, Try.ntmps165
  go_wp2_with fail
  go_loopw [5, 8] (fun _ i wr => ∃ k : Nat, k ≤ xs.length ∧ i = .int .i64 k ∧ Hid ((xs.take k).all (fun x => !p x) = true) ∧ Ext w wr) (fun _ i _ => xs.length - (intOf i).toNat)
  case atStart => exact ⟨0, Nat.zero_le _, rfl, rfl, Ext.refl _⟩
  case round =>
    obtain ⟨k, hk, rfl, hall, hwr⟩ := hrel
    by_cases hlt : k < xs.length
    · obtain ⟨x, hx⟩ := at_of_lt hlt
      obtain ⟨b, off, rfl, c0⟩ := (hR.ext hwr).at_ hx
      have HX := hide hx
      clear hx
      cases hp : p x
      all_goals
        go_wp2_with fail
        refine (HF.out x wr (List.mem_of_getElem? HX.out) hwr).mono ?_
        rintro e w1 ⟨rfl, hw1⟩
        go_wp2
      · exact ⟨⟨k + 1, by omega, by go_num, (all_take HX.out hall.out).trans (by simp [hp]), hwr.trans hw1⟩, by simp [intOf]; omega⟩
      · go_ret
        exact ⟨ret_int (findI_some HX.out hall.out hp).symm, hwr.trans hw1⟩
    · go_wp2
      go_ret
      exact ⟨ret_int (findI_none (all_whole (by omega) hall.out)).symm, hwr⟩

set_option maxRecDepth 100000 in
set_option maxHeartbeats 1000000 in
theorem containsFuncI (K : Nat) (fst cap : Array Value) (p : Int → Bool) (w : World) (a : Option Addr) (c : Nat) (xs : List Int) (hR : RdI w a xs) (hl : xs.length ≤ 2000000) (hK : Enters Try.prog K)
    (hf : ∀ (x : Int) (w' : World), x ∈ xs → Ext w w' → Calls Try.prog K (fst.push (.int .i64 x) ++ cap) w' fun e w'' => e = .returned (.bool (p x)) ∧ Ext w' w'') :
    Calls Try.prog 195 #[.slice a xs.length c, .func (.func K) fst cap] w fun e w' => e = .returned (.bool (xs.any p)) ∧ Ext w w' := by
  have H := hide (indexFuncI K fst cap p w a c xs hR hl hK hf)
  clear hf
  go_enter Try.func195, Try.ntmps195
  go_wp2_with fail
  refine H.out.mono ?_
  rintro e w1 ⟨rfl, hw1⟩
  go_wp2
  go_ret
  exact ⟨ret_bool (findI_nonneg p xs), hw1⟩

set_option maxRecDepth 100000 in
set_option maxHeartbeats 1000000 in
theorem allInOne (w : World) (g1 g2 : Nat) (x lo hi : Int) (h1 : w.cell? ⟨g1, 0, none⟩ = some (.int .i64 lo)) (h2 : w.cell? ⟨g2, 0, none⟩ = some (.int .i64 hi)) :
    Calls Try.prog 196 #[.int .i64 x, .pointer (some ⟨g1, 0, none⟩), .pointer (some ⟨g2, 0, none⟩)] w fun e w' => e = .returned (.bool (!inR x lo hi)) ∧ Ext w w' := by
  go_enter Try.func196, Try.ntmps196
  go_wp2_with (go_at_call 94; refine (in_impl _ _ _ _).mono ?_; rintro e w1 ⟨rfl, hw1⟩)
  go_ret
  exact ⟨rfl, (by repeat (first | exact Ext.refl _ | assumption | refine Ext.alloc ?_ _ | refine Ext.drew ?_ | refine Ext.trans ?_ (by assumption)))⟩

set_option maxRecDepth 100000 in
set_option maxHeartbeats 1000000 in
theorem allIn_impl (w : World) (a : Option Addr) (c : Nat) (xs : List Int) (lo hi : Int) (hR : RdI w a xs) (hl : xs.length ≤ 2000000) :
    Calls Try.prog 132 #[.slice a xs.length c, .int .i64 lo, .int .i64 hi] w fun e w' => e = .returned (.bool (xs.all (fun x => inR x lo hi))) ∧ Ext w w' := by
  have hs1 : (w.alloc (.cells #[.int .i64 lo] 3)).heap.size = w.heap.size + 1 := by simp
  have p0 := Ext.keep (Ext.new _ (.cells #[.int .i64 hi] 3)) (new0 w (.int .i64 lo) [] 3)
  have p1 := new0 (w.alloc (.cells #[.int .i64 lo] 3)) (.int .i64 hi) [] 3
  rw [hs1] at p1
  clear hs1
  go_enter Try.func132, Try.ntmps132
  go_wp2_with fail
  refine (containsFuncI 196 #[] #[.pointer (some ⟨w.heap.size, 0, none⟩), .pointer (some ⟨w.heap.size + 1, 0, none⟩)] (fun x => !inR x lo hi) _ a c xs (hR.ext (by repeat (first | exact Ext.refl _ | assumption | refine Ext.alloc ?_ _ | refine Ext.drew ?_ | refine Ext.trans ?_ (by assumption)))) hl Try.call196
    (fun x w' _ hw' => allInOne w' _ _ x lo hi (hw'.keep p0) (hw'.keep p1))).mono ?_
  rintro e w1 ⟨rfl, hw1⟩
  go_wp2
  go_ret
  exact ⟨ret_bool (by rw [any_not]; simp), (by repeat (first | exact Ext.refl _ | assumption | refine Ext.alloc ?_ _ | refine Ext.drew ?_ | refine Ext.trans ?_ (by assumption)))⟩

end Go.Proofs.Ythiojkpoeejkaaa
