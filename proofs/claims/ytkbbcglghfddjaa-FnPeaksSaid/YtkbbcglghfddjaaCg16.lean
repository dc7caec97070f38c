/- Weights of places and the scores by them, of the spec. Sums over candidates and votes (plain law). The costs of a ranking by swaps, and the first ranking with the least cost (plain law). The first ranking with the least cost, of the program. -/
import Derived.Test.YtkbbcglghfddjaaCg9
import Derived.Test.YtkbbcglghfddjaaCg8
import Derived.Test.YtkbbcglghfddjaaCg13
import Derived.Test.YtkbbcglghfddjaaCg11
import Derived.Test.YtkbbcglghfddjaaCg12
import Derived.Test.YtkbbcglghfddjaaCg14
import Derived.Lib.BufferMore
namespace Go.Proofs.Ytkbbcglghfddjaa
open Go.RowKit

def borW (n : Nat) (j : Nat) : Int := ((n - 1 - j : Nat) : Int)
def vetW (n : Nat) (j : Nat) : Int := if j + 1 < n then 1 else 0
set_option maxRecDepth 100000 in
theorem borG {n : Nat} (hn : n ≤ 5) : GoodW (borW n) := ⟨fun j => by unfold borW; omega, fun j => by unfold borW; omega⟩
set_option maxRecDepth 100000 in
theorem vetG (n : Nat) : GoodW (vetW n) := ⟨fun j => by unfold vetW; split <;> omega, fun j => by unfold vetW; split <;> split <;> omega⟩

set_option maxRecDepth 100000 in
theorem set0_at {n j : Nat} (hj : j < n) : ((madeCells #[.int .i64 0] n).setIfInBounds 0 (.int .i64 1)).getD j undef = .int .i64 (pluW j) := by
  have h := made_int n j hj
  have h' : (madeCells #[Value.int .i64 0] n).getD j undef = .int .i64 0 := h
  rw [Array.getD_eq_getD_getElem?] at h' ⊢
  rw [Array.getElem?_setIfInBounds]
  by_cases h0 : j = 0
  · subst h0
    rw [if_pos rfl, size_madeCells, if_pos hj]; rfl
  · rw [if_neg (by omega), h']
    simp [pluW, h0]

def sgN (f : Nat → Int) : Nat → Int
  | 0 => 0
  | k + 1 => sgN f k + f k
set_option maxRecDepth 100000 in
theorem sgN_congr {f g : Nat → Int} : ∀ {n : Nat}, (∀ i, i < n → f i = g i) → sgN f n = sgN g n
  | 0, _ => rfl
  | n + 1, h => by rw [sgN, sgN, sgN_congr (fun i hi => h i (by omega)), h n (by omega)]
set_option maxRecDepth 100000 in
theorem sgN_add (f g : Nat → Int) : ∀ n, sgN (fun i => f i + g i) n = sgN f n + sgN g n
  | 0 => rfl
  | n + 1 => by rw [sgN, sgN, sgN, sgN_add f g n]; omega
set_option maxRecDepth 100000 in
theorem sgN_zero : ∀ n, sgN (fun _ => 0) n = 0
  | 0 => rfl
  | n + 1 => by rw [sgN, sgN_zero n]; rfl
set_option maxRecDepth 100000 in
theorem sgN_mul (c : Int) (f : Nat → Int) : ∀ n, sgN (fun i => c * f i) n = c * sgN f n
  | 0 => by simp [sgN]
  | n + 1 => by rw [sgN, sgN, sgN_mul c f n, Int.mul_add]
set_option maxRecDepth 100000 in
theorem sgN_const (c : Int) : ∀ n : Nat, sgN (fun _ => c) n = n * c
  | 0 => by simp [sgN]
  | n + 1 => by rw [sgN, sgN_const c n, Int.natCast_add, Int.add_mul]; simp
set_option maxRecDepth 100000 in
theorem sgN_le {f g : Nat → Int} : ∀ {n : Nat}, (∀ i, i < n → f i ≤ g i) → sgN f n ≤ sgN g n
  | 0, _ => Int.le_refl _
  | n + 1, h => by
    have h1 := sgN_le (f := f) (g := g) (n := n) (fun i hi => h i (by omega))
    have h2 := h n (by omega)
    rw [sgN, sgN]; omega
set_option maxRecDepth 100000 in
theorem sgN_swap (f : Nat → Nat → Int) (m : Nat) : ∀ n, sgN (fun i => sgN (f i) m) n = sgN (fun j => sgN (fun i => f i j) n) m
  | 0 => by simp only [sgN]; exact (sgN_zero m).symm
  | n + 1 => by
    rw [sgN, sgN_swap f m n, ← sgN_add]
    exact sgN_congr (fun j _ => rfl)
set_option maxRecDepth 100000 in
theorem perm_sum {a b : List Int} (h : a.Perm b) : a.sum = b.sum := by
  induction h with
  | nil => rfl
  | cons x _ ih => rw [List.sum_cons, List.sum_cons, ih]
  | swap x y l => rw [List.sum_cons, List.sum_cons, List.sum_cons, List.sum_cons]; omega
  | trans _ _ h1 h2 => rw [h1, h2]
set_option maxRecDepth 100000 in
theorem rowL_sum (f : Nat → Int) : ∀ n, (rowL n f).sum = sgN f n
  | 0 => rfl
  | n + 1 => by rw [rowL_succ, List.sum_append, rowL_sum f n, sgN]; simp
set_option maxRecDepth 100000 in
theorem place_sum {n : Nat} {r : List Int} (h : rkOk n r = true) (f : Nat → Int) : sgN (fun a => f (placeI r a).toNat) n = sgN f n := by
  have hp : (upL n (fun _ => true)).Perm r := (rk_perm h).symm
  have h1 := perm_sum (hp.map (fun x => f (placeI r x).toNat))
  have h2 : (upL n (fun _ => true)).map (fun x => f (placeI r x).toNat) = rowL n (fun a => f (placeI r a).toNat) := by
    rw [← iotaL_up]
    simp [iotaL, rowL]
  have h3 : r.map (fun x => f (placeI r x).toNat) = rowL n f := by
    refine List.ext_getElem? (fun j => ?_)
    have hl : r.length = n := by have := (rk_len h).1; omega
    by_cases hj : j < n
    · obtain ⟨x, hx⟩ := at_of_lt (xs := r) (k := j) (by omega)
      have hm := rk_mem h (List.mem_of_getElem? hx)
      obtain ⟨a, rfl⟩ : ∃ a : Nat, x = a := ⟨x.toNat, by omega⟩
      obtain ⟨k, _, hk, _, hu⟩ := place_at h (show a < n by omega)
      have e := hu j hx
      rw [List.getElem?_map, hx, rowL_at hj, Option.map_some, hk, ← e]
      simp
    · rw [List.getElem?_eq_none (by rw [List.length_map]; omega), List.getElem?_eq_none (by rw [rowL_len]; omega)]
  rw [h2, h3, rowL_sum, rowL_sum] at h1
  exact h1

set_option maxRecDepth 100000 in
theorem SmallV.head {sz : Int} {x : Vt} {vs : List Vt} (h : SmallV sz (x :: vs)) : rkOk sz x.1 = true ∧ 1 ≤ x.2 ∧ x.2 ≤ 1000 := h.2 x (by simp)
set_option maxRecDepth 100000 in
theorem allV_cons (x : Vt) (vs : List Vt) : allV (x :: vs) = x.2 + allV vs := by simp [allV, sumV]
set_option maxRecDepth 100000 in
theorem scoV_cons (f : Nat → Int) (x : Vt) (vs : List Vt) (a : Nat) : scoV f (x :: vs) a = x.2 * f (placeI x.1 a).toNat + scoV f vs a := by simp [scoV]
set_option maxRecDepth 100000 in
theorem allV_nonneg {sz : Int} : ∀ {vs : List Vt}, SmallV sz vs → 0 ≤ allV vs
  | [], _ => by simp [allV, sumV]
  | x :: vs, h => by have := allV_nonneg h.tail; have := h.head; rw [allV_cons]; omega
set_option maxRecDepth 100000 in
theorem allV_pos1 {sz : Int} {vs : List Vt} (h : SmallV sz vs) (hne : 1 ≤ vs.length) : 1 ≤ allV vs := by
  cases vs with
  | nil => simp at hne
  | cons x vs => have := allV_nonneg h.tail; have := h.head; rw [allV_cons]; omega
set_option maxRecDepth 100000 in
/-- Scores add up to the weights of all voters. -/
theorem sco_sum {n : Nat} (f : Nat → Int) : ∀ {vs : List Vt}, SmallV n vs → sgN (scoV f vs) n = sgN f n * allV vs
  | [], _ => by
    have : allV [] = 0 := rfl
    rw [this, Int.mul_zero]
    exact (sgN_congr (fun i _ => rfl)).trans (sgN_zero n)
  | x :: vs, h => by
    have ih := sco_sum f h.tail
    have h1 : sgN (scoV f (x :: vs)) n = sgN (fun a => x.2 * f (placeI x.1 a).toNat) n + sgN (scoV f vs) n := by
      rw [← sgN_add]
      exact sgN_congr (fun a _ => scoV_cons f x vs a)
    rw [h1, ih, sgN_mul, place_sum h.head.1, allV_cons, Int.mul_add, Int.mul_comm]
set_option maxRecDepth 100000 in
theorem pair_tot {n : Nat} {a b : Nat} (ha : a < n) (hb : b < n) (hne : a ≠ b) : ∀ {vs : List Vt}, SmallV n vs → pairV vs a b + pairV vs b a = allV vs
  | [], _ => rfl
  | x :: vs, h => by
    have ih := pair_tot ha hb hne h.tail
    have h1 := pref_tot h.head.1 ha hb hne
    unfold pairV at ih ⊢
    rw [sumV_cons, sumV_cons, allV_cons, h1]
    cases prefB x.1 b a <;> simp <;> omega
set_option maxRecDepth 100000 in
theorem pairW_self (vs : List Vt) (a : Int) : pairV vs a a = 0 := by
  induction vs with
  | nil => rfl
  | cons x vs ih =>
    unfold pairV at ih ⊢
    rw [sumV_cons, ih, pref_self]; rfl
set_option maxRecDepth 100000 in
theorem cnt_above (n k : Nat) : sgN (fun j => if k < j then 1 else 0) n = ((n - 1 - k : Nat) : Int) := by
  have key : ∀ m, sgN (fun j => if k < j then 1 else 0) m = ((m - 1 - k : Nat) : Int) := by
    intro m
    induction m with
    | zero => simp [sgN]
    | succ m ih =>
      rw [sgN, ih]
      by_cases h : k < m
      · rw [if_pos h]; omega
      · rw [if_neg h]; omega
  exact key n
set_option maxRecDepth 100000 in
/-- A voter's points by Borda are the candidates behind. -/
theorem bor_vote {n : Nat} {r : List Int} (h : rkOk n r = true) {a : Nat} (ha : a < n) : sgN (fun b => if prefB r a b then 1 else 0) n = borW n (placeI r a).toNat := by
  obtain ⟨k, hk, hp, _, _⟩ := place_at h ha
  have h1 : sgN (fun b => if prefB r a b then (1 : Int) else 0) n = sgN (fun b => (fun j => if k < j then (1 : Int) else 0) (placeI r b).toNat) n := by
    refine sgN_congr (fun b hb => ?_)
    obtain ⟨q, _, hq, _, _⟩ := place_at h hb
    have e : prefB r a b = decide (k < q) := by
      unfold prefB
      rw [hp, hq]
      have e1 : decide ((0 : Int) ≤ (k : Int)) = true := decide_eq_true (by omega)
      have e2 : decide ((0 : Int) ≤ (q : Int)) = true := decide_eq_true (by omega)
      rw [e1, e2, Bool.true_and, Bool.true_and, decide_eq_decide]
      omega
    rw [hq, e]
    simp
  rw [h1, place_sum h (fun j => if k < j then (1 : Int) else 0), cnt_above n k, hp]
  rfl
set_option maxRecDepth 100000 in
theorem bor_pairs {n : Nat} {a : Nat} (ha : a < n) : ∀ {vs : List Vt}, SmallV n vs → scoV (borW n) vs a = sgN (fun b => pairV vs a b) n
  | [], _ => (sgN_zero n).symm
  | x :: vs, h => by
    rw [scoV_cons, bor_pairs ha h.tail, ← bor_vote h.head.1 ha, ← sgN_mul, ← sgN_add]
    refine sgN_congr (fun b _ => ?_)
    unfold pairV
    rw [sumV_cons]
    cases prefB x.1 a b <;> simp
/-- A veto and a last place are the voters. -/
def lstV (n : Nat) (vs : List Vt) (a : Nat) : Int := scoV (fun j => if j + 1 = n then 1 else 0) vs a
set_option maxRecDepth 100000 in
theorem veto_last {n : Nat} {a : Nat} (ha : a < n) : ∀ {vs : List Vt}, SmallV n vs → scoV (vetW n) vs a + lstV n vs a = allV vs
  | [], _ => rfl
  | x :: vs, h => by
    have ih := veto_last ha h.tail
    obtain ⟨k, hk, hp, _, _⟩ := place_at h.head.1 ha
    unfold lstV at ih ⊢
    rw [scoV_cons, scoV_cons, allV_cons, hp]
    unfold vetW
    simp only [Int.toNat_natCast]
    by_cases e : k + 1 = n
    · rw [if_neg (by omega), if_pos e]
      unfold vetW at ih
      omega
    · rw [if_pos (by omega), if_neg e]
      unfold vetW at ih
      omega

/-- Pairs that a list orders otherwise than xs. -/
def swapN (xs r : List Int) : Nat := bkI (fun y x => prefB r y x) xs
def kemV (vs : List Vt) (r : List Int) : Int := (vs.map (fun x => x.2 * (swapN x.1 r : Int))).sum
set_option maxRecDepth 100000 in
theorem kemV_at {vs : List Vt} {r : List Int} {k : Nat} {x : Vt} (hx : vs[k]? = some x) : kemV (vs.take (k + 1)) r = kemV (vs.take k) r + x.2 * (swapN x.1 r : Int) := by
  rw [take_at hx]; simp [kemV]
set_option maxRecDepth 100000 in
theorem swapN_bd {xs r : List Int} (h : xs.length ≤ 5) : swapN xs r ≤ 25 := by
  have h1 := bkI_bd (fun y x => prefB r y x) xs
  have h2 : xs.length * xs.length ≤ 5 * 5 := Nat.mul_le_mul h h
  unfold swapN
  omega
set_option maxRecDepth 100000 in
theorem kemV_bd {sz : Int} {vs : List Vt} {r : List Int} (hS : SmallV sz vs) : ∀ k, k ≤ vs.length → 0 ≤ kemV (vs.take k) r ∧ kemV (vs.take k) r ≤ 25000 * k
  | 0, _ => by simp [kemV]
  | k + 1, hk => by
    obtain ⟨x, hx⟩ := at_of_lt (xs := vs) (k := k) (by omega)
    have ih := kemV_bd (r := r) hS k (by omega)
    have h2 := hS.2 x (List.mem_of_getElem? hx)
    have h3 := swapN_bd (r := r) (rk_len h2.1).2
    rw [kemV_at hx]
    have h4 : 0 ≤ x.2 * (swapN x.1 r : Int) := Int.mul_nonneg (by omega) (by omega)
    have h5 : x.2 * (swapN x.1 r : Int) ≤ 1000 * 25 := Int.mul_le_mul (by omega) (by omega) (by omega) (by omega)
    omega
set_option maxRecDepth 100000 in
theorem kemV_bd' {sz : Int} {vs : List Vt} {r : List Int} (hS : SmallV sz vs) : 0 ≤ kemV vs r ∧ kemV vs r ≤ 600000 := by
  have h := kemV_bd (r := r) hS vs.length (Nat.le_refl _)
  rw [List.take_length] at h
  have := hS.1
  omega
/-- Pairs of a ranking of which the later one beats the earlier one. -/
def slaN (vs : List Vt) (r : List Int) : Int := (bkI (fun y x => beatsV vs y x) r : Nat)
set_option maxRecDepth 100000 in
theorem slaN_bd {vs : List Vt} {r : List Int} (h : r.length ≤ 5) : 0 ≤ slaN vs r ∧ slaN vs r ≤ 25 := by
  have h1 := bkI_bd (fun y x => beatsV vs y x) r
  have h2 : r.length * r.length ≤ 5 * 5 := Nat.mul_le_mul h h
  unfold slaN
  omega
/-- The first of all rankings with the least cost, this cost, and how many have it. -/
def lstR (cost : List Int → Int) (n : Nat) : List Int × Int × Nat := lstT cost (allO n) (allO n).length
def lstO (cost : List Int → Int) (sz : Int) (vs : List Vt) : List Int × Int × Nat := if profOk sz vs then lstR cost sz.toNat else ([], 0, 0)
set_option maxRecDepth 100000 in
theorem allO_pos {n : Nat} (n1 : 1 ≤ n) (n2 : n ≤ 5) : 1 ≤ (allO n).length := by
  obtain ⟨r, hr⟩ := allO_ne n1 n2
  obtain ⟨k, hk⟩ := List.mem_iff_getElem?.1 hr
  have := lt_of_at hk
  omega
set_option maxRecDepth 100000 in
theorem lstR_mem {cost : List Int → Int} {n : Nat} (n1 : 1 ≤ n) (n2 : n ≤ 5) : (lstR cost n).1 ∈ allO n ∧ (lstR cost n).2.1 = cost (lstR cost n).1 := lstT_mem _ (allO_pos n1 n2) (Nat.le_refl _)
set_option maxRecDepth 100000 in
theorem lstT_cnt {cost : List Int → Int} {xss : List (List Int)} : ∀ k, (lstT cost xss k).2.2 ≤ k
  | 0 => by simp [lstT]
  | k + 1 => by
    have ih := lstT_cnt (cost := cost) (xss := xss) k
    rw [lstT]
    split
    · simp
    · split
      · simp; omega
      · omega
set_option maxRecDepth 100000 in
theorem lstT_new {cost : List Int → Int} {xss : List (List Int)} {k : Nat} {r : List Int} (hr : xss[k]? = some r) (h : k = 0 ∨ cost r < (lstT cost xss k).2.1) : lstT cost xss (k + 1) = (r, cost r, 1) := by
  have hg : xss.getD k [] = r := by simp [List.getD, hr]
  rw [lstT, hg, if_pos h]
set_option maxRecDepth 100000 in
theorem lstT_tie {cost : List Int → Int} {xss : List (List Int)} {k : Nat} {r : List Int} (hr : xss[k]? = some r) (hk : k ≠ 0) (h : cost r = (lstT cost xss k).2.1) : lstT cost xss (k + 1) = ((lstT cost xss k).1, (lstT cost xss k).2.1, (lstT cost xss k).2.2 + 1) := by
  have hg : xss.getD k [] = r := by simp [List.getD, hr]
  rw [lstT, hg, if_neg (by omega), if_pos h]
set_option maxRecDepth 100000 in
theorem lstT_old {cost : List Int → Int} {xss : List (List Int)} {k : Nat} {r : List Int} (hr : xss[k]? = some r) (hk : k ≠ 0) (h : (lstT cost xss k).2.1 < cost r) : lstT cost xss (k + 1) = lstT cost xss k := by
  have hg : xss.getD k [] = r := by simp [List.getD, hr]
  rw [lstT, hg, if_neg (by omega), if_neg (by omega)]
set_option maxRecDepth 100000 in
theorem lstO_len (cost : List Int → Int) (sz : Int) (vs : List Vt) : (lstO cost sz vs).1.length ≤ 5 := by
  unfold lstO
  cases h0 : profOk sz vs
  · simp
  · obtain ⟨n, rfl, n1, n2⟩ := prof_nat h0
    simp only [if_true, Int.toNat_natCast]
    exact (rk_len ((allO_mem n1 n2).1 (lstR_mem n1 n2).1)).2
def kemO (sz : Int) (vs : List Vt) : List Int := (lstO (kemV vs) sz vs).1
def slaO (sz : Int) (vs : List Vt) : List Int := (lstO (slaN vs) sz vs).1
def slaW (sz : Int) (vs : List Vt) : Int := if profOk sz vs then (lstO (slaN vs) sz vs).2.1 else -1

end Go.Proofs.Ytkbbcglghfddjaa
