/- Sums over candidates and votes (plain law). The ranking by scores, of the spec. The greatest numbers of a list, and where they stand. -/
import Derived.Test.YthiojkpoeejkaaaCp14
import Derived.Test.YthiojkpoeejkaaaCp15
import Derived.Test.YthiojkpoeejkaaaCp8
import Derived.Test.YthiojkpoeejkaaaCp7
import Derived.Test.YthiojkpoeejkaaaCp9
import Derived.Test.YthiojkpoeejkaaaCp2
import Derived.Test.YthiojkpoeejkaaaCp5
namespace Go.Proofs.Ythiojkpoeejkaaa
open Go.RowKit

def sgN (f : Nat → Int) : Nat → Int
  | 0 => 0
  | k + 1 => sgN f k + f k
set_option maxRecDepth 100000 in
theorem sgN_congr {f g : Nat → Int} : ∀ {n : Nat}, (∀ i, i < n → f i = g i) → sgN f n = sgN g n
  | 0, _ => rfl
  | n + 1, h => by rw [sgN, sgN, sgN_congr (fun i hi => h i (by omega)), h n (by omega)]
set_option maxRecDepth 100000 in
theorem sgN_add (f g : Nat → Int) : ∀ n, sgN (fun i => f i + g i) n = sgN f n + sgN g n
  | 0 => rfl
  | n + 1 => by rw [sgN, sgN, sgN, sgN_add f g n]; omega
set_option maxRecDepth 100000 in
theorem sgN_zero : ∀ n, sgN (fun _ => 0) n = 0
  | 0 => rfl
  | n + 1 => by rw [sgN, sgN_zero n]; rfl
set_option maxRecDepth 100000 in
theorem sgN_mul (c : Int) (f : Nat → Int) : ∀ n, sgN (fun i => c * f i) n = c * sgN f n
  | 0 => by simp [sgN]
  | n + 1 => by rw [sgN, sgN, sgN_mul c f n, Int.mul_add]
set_option maxRecDepth 100000 in
theorem sgN_const (c : Int) : ∀ n : Nat, sgN (fun _ => c) n = n * c
  | 0 => by simp [sgN]
  | n + 1 => by rw [sgN, sgN_const c n, Int.natCast_add, Int.add_mul]; simp
set_option maxRecDepth 100000 in
theorem sgN_le {f g : Nat → Int} : ∀ {n : Nat}, (∀ i, i < n → f i ≤ g i) → sgN f n ≤ sgN g n
  | 0, _ => Int.le_refl _
  | n + 1, h => by
    have h1 := sgN_le (f := f) (g := g) (n := n) (fun i hi => h i (by omega))
    have h2 := h n (by omega)
    rw [sgN, sgN]; omega
set_option maxRecDepth 100000 in
theorem sgN_swap (f : Nat → Nat → Int) (m : Nat) : ∀ n, sgN (fun i => sgN (f i) m) n = sgN (fun j => sgN (fun i => f i j) n) m
  | 0 => by simp only [sgN]; exact (sgN_zero m).symm
  | n + 1 => by
    rw [sgN, sgN_swap f m n, ← sgN_add]
    exact sgN_congr (fun j _ => rfl)
set_option maxRecDepth 100000 in
theorem perm_sum {a b : List Int} (h : a.Perm b) : a.sum = b.sum := by
  induction h with
  | nil => rfl
  | cons x _ ih => rw [List.sum_cons, List.sum_cons, ih]
  | swap x y l => rw [List.sum_cons, List.sum_cons, List.sum_cons, List.sum_cons]; omega
  | trans _ _ h1 h2 => rw [h1, h2]
set_option maxRecDepth 100000 in
theorem rowL_sum (f : Nat → Int) : ∀ n, (rowL n f).sum = sgN f n
  | 0 => rfl
  | n + 1 => by rw [rowL_succ, List.sum_append, rowL_sum f n, sgN]; simp
set_option maxRecDepth 100000 in
theorem place_sum {n : Nat} {r : List Int} (h : rkOk n r = true) (f : Nat → Int) : sgN (fun a => f (placeI r a).toNat) n = sgN f n := by
  have hp : (upL n (fun _ => true)).Perm r := (rk_perm h).symm
  have h1 := perm_sum (hp.map (fun x => f (placeI r x).toNat))
  have h2 : (upL n (fun _ => true)).map (fun x => f (placeI r x).toNat) = rowL n (fun a => f (placeI r a).toNat) := by
    rw [← iotaL_up]
    simp [iotaL, rowL]
  have h3 : r.map (fun x => f (placeI r x).toNat) = rowL n f := by
    refine List.ext_getElem? (fun j => ?_)
    have hl : r.length = n := by have := (rk_len h).1; omega
    by_cases hj : j < n
    · obtain ⟨x, hx⟩ := at_of_lt (xs := r) (k := j) (by omega)
      have hm := rk_mem h (List.mem_of_getElem? hx)
      obtain ⟨a, rfl⟩ : ∃ a : Nat, x = a := ⟨x.toNat, by omega⟩
      obtain ⟨k, _, hk, _, hu⟩ := place_at h (show a < n by omega)
      have e := hu j hx
      rw [List.getElem?_map, hx, rowL_at hj, Option.map_some, hk, ← e]
      simp
    · rw [List.getElem?_eq_none (by rw [List.length_map]; omega), List.getElem?_eq_none (by rw [rowL_len]; omega)]
  rw [h2, h3, rowL_sum, rowL_sum] at h1
  exact h1

set_option maxRecDepth 100000 in
theorem SmallV.head {sz : Int} {x : Vt} {vs : List Vt} (h : SmallV sz (x :: vs)) : rkOk sz x.1 = true ∧ 1 ≤ x.2 ∧ x.2 ≤ 1000 := h.2 x (by simp)
set_option maxRecDepth 100000 in
theorem allV_cons (x : Vt) (vs : List Vt) : allV (x :: vs) = x.2 + allV vs := by simp [allV, sumV]
set_option maxRecDepth 100000 in
theorem scoV_cons (f : Nat → Int) (x : Vt) (vs : List Vt) (a : Nat) : scoV f (x :: vs) a = x.2 * f (placeI x.1 a).toNat + scoV f vs a := by simp [scoV]
set_option maxRecDepth 100000 in
theorem allV_nonneg {sz : Int} : ∀ {vs : List Vt}, SmallV sz vs → 0 ≤ allV vs
  | [], _ => by simp [allV, sumV]
  | x :: vs, h => by have := allV_nonneg h.tail; have := h.head; rw [allV_cons]; omega
set_option maxRecDepth 100000 in
theorem allV_pos1 {sz : Int} {vs : List Vt} (h : SmallV sz vs) (hne : 1 ≤ vs.length) : 1 ≤ allV vs := by
  cases vs with
  | nil => simp at hne
  | cons x vs => have := allV_nonneg h.tail; have := h.head; rw [allV_cons]; omega
set_option maxRecDepth 100000 in
/-- Scores add up to the weights of all voters. -/
theorem sco_sum {n : Nat} (f : Nat → Int) : ∀ {vs : List Vt}, SmallV n vs → sgN (scoV f vs) n = sgN f n * allV vs
  | [], _ => by
    have : allV [] = 0 := rfl
    rw [this, Int.mul_zero]
    exact (sgN_congr (fun i _ => rfl)).trans (sgN_zero n)
  | x :: vs, h => by
    have ih := sco_sum f h.tail
    have h1 : sgN (scoV f (x :: vs)) n = sgN (fun a => x.2 * f (placeI x.1 a).toNat) n + sgN (scoV f vs) n := by
      rw [← sgN_add]
      exact sgN_congr (fun a _ => scoV_cons f x vs a)
    rw [h1, ih, sgN_mul, place_sum h.head.1, allV_cons, Int.mul_add, Int.mul_comm]
set_option maxRecDepth 100000 in
theorem pair_tot {n : Nat} {a b : Nat} (ha : a < n) (hb : b < n) (hne : a ≠ b) : ∀ {vs : List Vt}, SmallV n vs → pairV vs a b + pairV vs b a = allV vs
  | [], _ => rfl
  | x :: vs, h => by
    have ih := pair_tot ha hb hne h.tail
    have h1 := pref_tot h.head.1 ha hb hne
    unfold pairV at ih ⊢
    rw [sumV_cons, sumV_cons, allV_cons, h1]
    cases prefB x.1 b a <;> simp <;> omega
set_option maxRecDepth 100000 in
theorem pairW_self (vs : List Vt) (a : Int) : pairV vs a a = 0 := by
  induction vs with
  | nil => rfl
  | cons x vs ih =>
    unfold pairV at ih ⊢
    rw [sumV_cons, ih, pref_self]; rfl
set_option maxRecDepth 100000 in
theorem cnt_above (n k : Nat) : sgN (fun j => if k < j then 1 else 0) n = ((n - 1 - k : Nat) : Int) := by
  have key : ∀ m, sgN (fun j => if k < j then 1 else 0) m = ((m - 1 - k : Nat) : Int) := by
    intro m
    induction m with
    | zero => simp [sgN]
    | succ m ih =>
      rw [sgN, ih]
      by_cases h : k < m
      · rw [if_pos h]; omega
      · rw [if_neg h]; omega
  exact key n
set_option maxRecDepth 100000 in
/-- A voter's points by Borda are the candidates behind. -/
theorem bor_vote {n : Nat} {r : List Int} (h : rkOk n r = true) {a : Nat} (ha : a < n) : sgN (fun b => if prefB r a b then 1 else 0) n = borW n (placeI r a).toNat := by
  obtain ⟨k, hk, hp, _, _⟩ := place_at h ha
  have h1 : sgN (fun b => if prefB r a b then (1 : Int) else 0) n = sgN (fun b => (fun j => if k < j then (1 : Int) else 0) (placeI r b).toNat) n := by
    refine sgN_congr (fun b hb => ?_)
    obtain ⟨q, _, hq, _, _⟩ := place_at h hb
    have e : prefB r a b = decide (k < q) := by
      unfold prefB
      rw [hp, hq]
      have e1 : decide ((0 : Int) ≤ (k : Int)) = true := decide_eq_true (by omega)
      have e2 : decide ((0 : Int) ≤ (q : Int)) = true := decide_eq_true (by omega)
      rw [e1, e2, Bool.true_and, Bool.true_and, decide_eq_decide]
      omega
    rw [hq, e]
    simp
  rw [h1, place_sum h (fun j => if k < j then (1 : Int) else 0), cnt_above n k, hp]
  rfl
set_option maxRecDepth 100000 in
theorem bor_pairs {n : Nat} {a : Nat} (ha : a < n) : ∀ {vs : List Vt}, SmallV n vs → scoV (borW n) vs a = sgN (fun b => pairV vs a b) n
  | [], _ => (sgN_zero n).symm
  | x :: vs, h => by
    rw [scoV_cons, bor_pairs ha h.tail, ← bor_vote h.head.1 ha, ← sgN_mul, ← sgN_add]
    refine sgN_congr (fun b _ => ?_)
    unfold pairV
    rw [sumV_cons]
    cases prefB x.1 a b <;> simp
/-- A veto and a last place are the voters. -/
def lstV (n : Nat) (vs : List Vt) (a : Nat) : Int := scoV (fun j => if j + 1 = n then 1 else 0) vs a
set_option maxRecDepth 100000 in
theorem veto_last {n : Nat} {a : Nat} (ha : a < n) : ∀ {vs : List Vt}, SmallV n vs → scoV (vetW n) vs a + lstV n vs a = allV vs
  | [], _ => rfl
  | x :: vs, h => by
    have ih := veto_last ha h.tail
    obtain ⟨k, hk, hp, _, _⟩ := place_at h.head.1 ha
    unfold lstV at ih ⊢
    rw [scoV_cons, scoV_cons, allV_cons, hp]
    unfold vetW
    simp only [Int.toNat_natCast]
    by_cases e : k + 1 = n
    · rw [if_neg (by omega), if_pos e]
      unfold vetW at ih
      omega
    · rw [if_pos (by omega), if_neg e]
      unfold vetW at ih
      omega

def keyS (sc : Nat → Int) (x : Int) : Int := sc x.toNat
/-- Candidates by their scores, the greatest first, equal ones in ascending order. -/
def srk (sc : Nat → Int) (n : Nat) : List Int := sortD (keyS sc) (iotaL n)
set_option maxRecDepth 100000 in
theorem iota_succ (n : Nat) : iotaL (n + 1) = iotaL n ++ [(n : Int)] := rowL_succ n _
set_option maxRecDepth 100000 in
theorem srk_succ (sc : Nat → Int) (n : Nat) : srk sc (n + 1) = insD (keyS sc) (srk sc n) n := by unfold srk; rw [iota_succ, sortD_snoc]
set_option maxRecDepth 100000 in
theorem srk_len (sc : Nat → Int) (n : Nat) : (srk sc n).length = n := by unfold srk; rw [sortD_len]; exact rowL_len _ _
set_option maxRecDepth 100000 in
theorem srk_mem {sc : Nat → Int} {n : Nat} {x : Int} (h : x ∈ srk sc n) : ∃ i : Nat, i < n ∧ x = i := by
  unfold srk at h
  rw [sortD_mem] at h
  obtain ⟨j, hj⟩ := List.mem_iff_getElem?.1 h
  obtain ⟨h1, rfl⟩ := rowL_val hj
  exact ⟨j, h1, rfl⟩

def maxL : List Int → Int
  | [] => 0
  | x :: xs => xs.foldl max x
set_option maxRecDepth 100000 in
theorem maxL_snoc {ys : List Int} (x : Int) (h : ys ≠ []) : maxL (ys ++ [x]) = max (maxL ys) x := by
  cases ys with
  | nil => exact absurd rfl h
  | cons y ys => simp [maxL]
set_option maxRecDepth 100000 in
theorem maxL_at {xs : List Int} {k : Nat} {x : Int} (h : xs[k]? = some x) (hk : 1 ≤ k) : maxL (xs.take (k + 1)) = max (maxL (xs.take k)) x := by
  rw [take_at h]
  exact maxL_snoc x (fun e => by
    have := lt_of_at h
    have h2 : (xs.take k).length = 0 := by rw [e]; rfl
    rw [List.length_take] at h2; omega)
set_option maxRecDepth 100000 in
theorem foldl_ge (xs : List Int) : ∀ x, x ≤ xs.foldl max x ∧ ∀ y ∈ xs, y ≤ xs.foldl max x := by
  induction xs with
  | nil => intro x; simp
  | cons z xs ih =>
    intro x
    have h := ih (max x z)
    simp only [List.foldl_cons]
    refine ⟨by omega, fun y hy => ?_⟩
    rcases List.mem_cons.1 hy with rfl | hy
    · omega
    · exact h.2 y hy
set_option maxRecDepth 100000 in
theorem maxL_ge {xs : List Int} {x : Int} (h : x ∈ xs) : x ≤ maxL xs := by
  cases xs with
  | nil => cases h
  | cons z xs =>
    rcases List.mem_cons.1 h with rfl | h
    · exact (foldl_ge xs x).1
    · exact (foldl_ge xs z).2 x h
set_option maxRecDepth 100000 in
theorem foldl_mem (xs : List Int) : ∀ x, xs.foldl max x = x ∨ xs.foldl max x ∈ xs := by
  induction xs with
  | nil => intro x; exact .inl rfl
  | cons z xs ih =>
    intro x
    simp only [List.foldl_cons]
    rcases ih (max x z) with h | h
    · rw [h]
      by_cases e : x ≤ z
      · right; rw [show max x z = z by omega]; simp
      · left; omega
    · right; exact List.mem_cons_of_mem _ h
set_option maxRecDepth 100000 in
theorem maxL_mem {xs : List Int} (h : xs ≠ []) : maxL xs ∈ xs := by
  cases xs with
  | nil => exact absurd rfl h
  | cons z xs =>
    rcases foldl_mem xs z with h | h
    · show xs.foldl max z ∈ _
      rw [h]; simp
    · exact List.mem_cons_of_mem _ h

def isMax (xs : List Int) (m : Int) (i : Nat) : Bool := decide (xs[i]? = some m)
def bestL (xs : List Int) : List Int := upL xs.length (isMax xs (maxL xs))
/-- The best of the first k. -/
def bestT (xs : List Int) (k : Nat) : List Int := upL k (isMax xs (maxL (xs.take k)))
set_option maxRecDepth 100000 in
theorem bestT_all (xs : List Int) : bestT xs xs.length = bestL xs := by unfold bestT bestL; rw [List.take_length]
set_option maxRecDepth 100000 in
theorem bestT_len (xs : List Int) (k : Nat) : (bestT xs k).length ≤ k := upL_len _ _
set_option maxRecDepth 100000 in
theorem upL_none' {n : Nat} {q : Nat → Bool} (h : ∀ j, j < n → q j = false) : upL n q = [] := by
  unfold upL
  rw [List.map_eq_nil_iff, List.filter_eq_nil_iff]
  intro x hx
  rw [h x (List.mem_range.1 hx)]; simp
set_option maxRecDepth 100000 in
theorem bestT_new {xs : List Int} {k : Nat} {x : Int} (hx : xs[k]? = some x) (h : k = 0 ∨ maxL (xs.take k) < x) : bestT xs (k + 1) = [(k : Int)] := by
  have hm : maxL (xs.take (k + 1)) = x := by
    rcases h with rfl | h
    · rw [take_at hx]; simp [maxL]
    · by_cases hk : k = 0
      · subst hk; rw [take_at hx]; simp [maxL]
      · rw [maxL_at hx (by omega)]; omega
  unfold bestT
  rw [hm, upL_succ, upL_none' (fun j hj => ?_)]
  · simp [isMax, hx]
  · unfold isMax
    rw [decide_eq_false_iff_not]
    intro e
    have h1 : x ∈ xs.take k := by rw [List.mem_iff_getElem?]; exact ⟨j, by rw [List.getElem?_take_of_lt hj]; exact e⟩
    have h2 := maxL_ge h1
    omega
set_option maxRecDepth 100000 in
theorem bestT_tie {xs : List Int} {k : Nat} {x : Int} (hx : xs[k]? = some x) (hk : 1 ≤ k) (h : x = maxL (xs.take k)) : bestT xs (k + 1) = bestT xs k ++ [(k : Int)] := by
  have hm : maxL (xs.take (k + 1)) = maxL (xs.take k) := by rw [maxL_at hx hk]; omega
  unfold bestT
  rw [hm, upL_succ]
  simp [isMax, hx, h]
set_option maxRecDepth 100000 in
theorem bestT_not {xs : List Int} {k : Nat} {x : Int} (hx : xs[k]? = some x) (hk : 1 ≤ k) (h : x < maxL (xs.take k)) : bestT xs (k + 1) = bestT xs k := by
  have hm : maxL (xs.take (k + 1)) = maxL (xs.take k) := by rw [maxL_at hx hk]; omega
  have hne : ¬ x = maxL (xs.take k) := by omega
  unfold bestT
  rw [hm, upL_succ]
  simp [isMax, hx, hne]
set_option maxRecDepth 100000 in
theorem bestT_head {xs : List Int} {k : Nat} (hk : 1 ≤ k) (hl : k ≤ xs.length) : ∃ (i : Nat) (r : List Int), bestT xs k = (i : Int) :: r ∧ xs[i]? = some (maxL (xs.take k)) ∧ i < k ∧ ∀ j, j < i → xs[j]? ≠ some (maxL (xs.take k)) := by
  have hne : xs.take k ≠ [] := fun e => by
    have h2 : (xs.take k).length = 0 := by rw [e]; rfl
    rw [List.length_take] at h2; omega
  obtain ⟨i, hi⟩ := List.mem_iff_getElem?.1 (maxL_mem hne)
  have hik : i < k := by have := lt_of_at hi; rw [List.length_take] at this; omega
  rw [List.getElem?_take_of_lt hik] at hi
  have hq : isMax xs (maxL (xs.take k)) i = true := by simp [isMax, hi]
  unfold bestT
  generalize maxL (xs.take k) = m at hi hq ⊢
  clear hne hk hl
  induction k with
  | zero => omega
  | succ k ih =>
    by_cases hlt : i < k
    · obtain ⟨i0, r, h1, h2⟩ := ih hlt
      rw [upL_succ, h1]
      exact ⟨i0, r ++ _, rfl, h2.1, by omega, h2.2.2⟩
    · have hik : i = k := by omega
      subst hik
      by_cases hall : ∀ j, j < i → isMax xs m j = false
      · rw [upL_succ, upL_none' hall, hq]
        exact ⟨i, [], rfl, hi, by omega, fun j hj e => by have := hall j hj; simp [isMax, e] at this⟩
      · have : ∃ j, j < i ∧ isMax xs m j = true := by
          apply Classical.byContradiction
          intro hno
          exact hall (fun j hj => by
            cases h : isMax xs m j
            · rfl
            · exact absurd ⟨j, hj, h⟩ hno)
        obtain ⟨j, hj, hq2⟩ := this
        have key : ∀ k j, j < k → isMax xs m j = true → ∃ (i : Nat) (r : List Int), upL k (isMax xs m) = (i : Int) :: r ∧ xs[i]? = some m ∧ i < k ∧ ∀ j, j < i → xs[j]? ≠ some m := by
          intro k
          induction k with
          | zero => intro j hj; omega
          | succ k ih2 =>
            intro j hj hqj
            by_cases hex : ∃ j', j' < k ∧ isMax xs m j' = true
            · obtain ⟨j', hj', hq'⟩ := hex
              obtain ⟨i0, r, h1, h2, h3, h4⟩ := ih2 j' hj' hq'
              rw [upL_succ, h1]
              exact ⟨i0, r ++ _, rfl, h2, by omega, h4⟩
            · have hno : ∀ j', j' < k → isMax xs m j' = false := fun j' hj' => by
                cases h : isMax xs m j'
                · rfl
                · exact absurd ⟨j', hj', h⟩ hex
              have hjk : j = k := by
                rcases Nat.lt_or_ge j k with h | h
                · rw [hno j h] at hqj; cases hqj
                · omega
              subst hjk
              rw [upL_succ, upL_none' hno, hqj]
              exact ⟨j, [], rfl, by simpa [isMax] using hqj, by omega, fun j' hj' e => by have := hno j' hj'; simp [isMax, e] at this⟩
        exact key (i + 1) j (by omega) hq2

set_option maxRecDepth 100000 in
theorem OwnI.lit1 (w : World) (y : Int) : OwnI (w.alloc (.cells #[.int .i64 y] 3)) w.heap.size (.slice (some ⟨w.heap.size, 0, none⟩) 1 1) [y] :=
  ⟨rfl, .inr ⟨w.heap.size, 1, #[.int .i64 y], rfl, Nat.le_refl _, heap_alloc_new _ _, Nat.le_refl _, by simp [maxLen], rfl, rfl⟩⟩
set_option maxRecDepth 100000 in
theorem max_if (x y : Int) : (if x < y then y else x) = max x y := by split <;> omega
set_option maxRecDepth 100000 in
theorem max_if' (x y : Int) : (if y < x then x else y) = max x y := by split <;> omega

set_option maxRecDepth 100000 in
set_option maxHeartbeats 1000000 in
theorem max_impl (w : World) (a : Option Addr) (c : Nat) (xs : List Int) (hR : RdI w a xs) (hl : xs.length ≤ 2000000) (hne : 1 ≤ xs.length) :
    Calls Try.prog 113 #[.slice a xs.length c] w fun e w' => e = .returned (.int .i64 (maxL xs)) ∧ Ext w w' := by
  obtain ⟨x, hx⟩ := at_of_lt (xs := xs) (k := 0) (by omega)
  obtain ⟨b, off, rfl, c0⟩ := hR.at_ hx
  rw [Nat.add_zero] at c0
  have h1 : x = maxL (xs.take 1) := by
    cases xs with
    | nil => simp at hx
    | cons y ys => simp at hx; subst hx; simp [maxL]
  have H1 := hide h1
  clear hx h1
  go_enter Try.func113, Try.ntmps113
  go_wp2_with fail
  rw [H1.out]
  go_loopw [3, 4] (fun s i wr => ∃ k : Nat, 1 ≤ k ∧ k ≤ xs.length ∧ i = .int .i64 k ∧ s = .int .i64 (maxL (xs.take k)) ∧ Ext w wr) (fun _ i _ => xs.length - (intOf i).toNat)
  case atStart => exact ⟨1, by omega, hne, rfl, rfl, Ext.refl _⟩
  case round =>
    obtain ⟨k, hk1, hk, rfl, rfl, hwr⟩ := hrel
    by_cases hlt : k < xs.length
    · obtain ⟨y, hy⟩ := at_of_lt hlt
      obtain ⟨b', off', hb, c1⟩ := (hR.ext hwr).at_ hy
      injection hb with hb
      injection hb with hb hb2
      subst hb
      subst hb2
      have HY := hide hy
      clear hy
      go_wp2
      exact ⟨⟨k + 1, by omega, by omega, by go_num, by rw [maxL_at HY.out hk1]; first | rw [← max_if] | rw [← max_if'], (by repeat (first | exact Ext.refl _ | assumption | refine Ext.alloc ?_ _ | refine Ext.drew ?_ | refine Ext.trans ?_ (by assumption)))⟩, by simp [intOf]; omega⟩
    · go_wp2
      go_ret
      exact ⟨ret_int (by rw [List.take_of_length_le (by omega)]), hwr⟩

set_option maxRecDepth 100000 in
set_option maxHeartbeats 1000000 in
theorem gr_impl (w : World) (a : Option Addr) (c : Nat) (xs : List Int) (hR : RdI w a xs) (hl : xs.length ≤ 1000000) :
    Calls Try.prog 135 #[.slice a xs.length c] w fun e w' => ∃ v, e = .returned v ∧ OwnI w' w.heap.size v (bestL xs) ∧ Ext w w' := by
  go_enter Try.func135, Try.ntmps135
  go_wp2_with fail
  go_loopw [3, 4, 5, 8] (fun v _ _ i wr => ∃ k : Nat, k ≤ xs.length ∧ i = .int .i64 k ∧ OwnI wr w.heap.size v (upL k (isMax xs (maxL xs))) ∧ Ext w wr) (fun _ _ _ i _ => xs.length - (intOf i).toNat)
  case atStart => exact ⟨0, Nat.zero_le _, rfl, OwnI.nil _ _, Ext.refl _⟩
  case round =>
    obtain ⟨k, hk, rfl, hown, hwr⟩ := hrel
    have hul := upL_len k (isMax xs (maxL xs))
    by_cases hlt : k < xs.length
    · obtain ⟨y, hy⟩ := at_of_lt hlt
      obtain ⟨b', off', rfl, c1⟩ := (hR.ext hwr).at_ hy
      have HY := hide hy
      clear hy
      cases hq : (y == maxL xs)
      · go_wp2_with (go_at_call 113; refine (max_impl _ _ _ _ (hR.ext (by repeat (first | exact Ext.refl _ | assumption | refine Ext.alloc ?_ _ | refine Ext.drew ?_ | refine Ext.trans ?_ (by assumption)))) (by omega) (by omega)).mono ?_; rintro e w1 ⟨rfl, hw1⟩)
        exact ⟨⟨k + 1, by omega, by go_num, by rw [upL_succ, show isMax xs (maxL xs) k = false by simp only [isMax, HY.out]; simpa using hq]; simpa using hown.ext hw1, (by repeat (first | exact Ext.refl _ | assumption | refine Ext.alloc ?_ _ | refine Ext.drew ?_ | refine Ext.trans ?_ (by assumption)))⟩, by simp [intOf]; omega⟩
      · go_wp2_with (first | (go_at_call 113; refine (max_impl _ _ _ _ (hR.ext (by repeat (first | exact Ext.refl _ | assumption | refine Ext.alloc ?_ _ | refine Ext.drew ?_ | refine Ext.trans ?_ (by assumption)))) (by omega) (by omega)).mono ?_; rintro e w1 ⟨rfl, hw1⟩) | (at_builtin; refine wpList_appI w _ rfl _ _ rfl _ (upL k (isMax xs (maxL xs))) _ rfl (hown.ext (by repeat (first | exact Ext.refl _ | assumption | refine Ext.alloc ?_ _ | refine Ext.drew ?_ | refine Ext.trans ?_ (by assumption)))) (by repeat (first | exact Ext.refl _ | assumption | refine Ext.alloc ?_ _ | refine Ext.drew ?_ | refine Ext.trans ?_ (by assumption))) rfl (by omega) ?_; intro v' w3 hown3 hw3))
        exact ⟨⟨k + 1, by omega, by go_num, by rw [upL_succ, show isMax xs (maxL xs) k = true by simp only [isMax, HY.out]; simpa using hq]; exact hown3, (by repeat (first | exact Ext.refl _ | assumption | refine Ext.alloc ?_ _ | refine Ext.drew ?_ | refine Ext.trans ?_ (by assumption)))⟩, by simp [intOf]; omega⟩
    · have hkl : k = xs.length := by omega
      go_wp2
      go_ret
      rw [hkl] at hown
      exact ⟨_, rfl, hown, hwr⟩

end Go.Proofs.Ythiojkpoeejkaaa
