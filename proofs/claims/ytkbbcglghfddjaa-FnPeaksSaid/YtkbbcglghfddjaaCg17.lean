/- The distance of a ranking by swaps, of the program, and the first ranking with the least one. Rankings that are changed (plain law). Profiles that are merged, reversed, renamed or lose a candidate: their margins (plain law). slices.IndexFunc and ContainsFunc over lists of lists, with a function. -/
import Derived.Test.YtkbbcglghfddjaaCg16
import Derived.Test.YtkbbcglghfddjaaCg13
import Derived.Test.YtkbbcglghfddjaaCg5
import Derived.Test.YtkbbcglghfddjaaCg4
namespace Go.Proofs.Ytkbbcglghfddjaa
open Go.RowKit

set_option maxRecDepth 100000 in
set_option maxHeartbeats 1000000 in
theorem isRk_impl (w : World) (a : Option Addr) (c n : Nat) (xs : List Int) (hx : rkOk n xs = true) (hR : RdI w a xs) (hl : xs.length = n) (hc : n ≤ c) (n1 : inR (n : Int) 1 5 = true) :
    Calls Try.prog 54 #[.slice a n c] w fun e w' => e = .returned (.bool true) ∧ Ext w w' := by
  have h1 := rank_impl_n w n a c xs hR hl hc n1
  rw [hx] at h1
  have H1 := hide h1
  clear hx h1 hl hR
  go_enter Try.func54, Try.ntmps54
  go_wp2_with fail
  refine H1.out.mono ?_
  rintro e w1 ⟨rfl, hw1⟩
  go_wp2
  go_ret
  exact ⟨rfl, hw1⟩

set_option maxRecDepth 100000 in
theorem rk_perm_ok {m : Int} {xs ys : List Int} (h : ys.Perm xs) (hr : rkOk m xs = true) : rkOk m ys = true := by
  have hl := h.length_eq
  unfold rkOk at hr ⊢
  simp only [Bool.and_eq_true, decide_eq_true_eq, List.all_eq_true] at hr ⊢
  obtain ⟨h1, h2, h3, h4⟩ := hr
  exact ⟨h1, by omega, fun x hx => h3 x (h.mem_iff.1 hx), h.nodup_iff.2 h4⟩
/-- One place up. -/
def raiseL (xs : List Int) (i : Nat) : List Int := (xs.set (i - 1) (xs.getD i 0)).set i (xs.getD (i - 1) 0)
set_option maxRecDepth 100000 in
theorem raise_len (xs : List Int) (i : Nat) : (raiseL xs i).length = xs.length := by unfold raiseL; rw [List.length_set, List.length_set]
set_option maxRecDepth 100000 in
theorem raise_ok {m : Int} {xs : List Int} {i : Nat} (hr : rkOk m xs = true) (hi : i < xs.length) : rkOk m (raiseL xs i) = true := by
  refine rk_perm_ok ?_ hr
  unfold raiseL
  have h1 : xs.getD i 0 = xs[i] := by simp [List.getD, List.getElem?_eq_getElem hi]
  have hi2 : i - 1 < xs.length := by omega
  have h2 : xs.getD (i - 1) 0 = xs[i - 1] := by simp [List.getD, List.getElem?_eq_getElem hi2]
  rw [h1, h2]
  exact List.set_set_perm hi2 hi
set_option maxRecDepth 100000 in
theorem raise_at {xs : List Int} {i : Nat} (h1 : 1 ≤ i) (hi : i < xs.length) (j : Nat) (hj : j < xs.length) : (raiseL xs i).getD j 0 = if j = i then xs.getD (i - 1) 0 else if j = i - 1 then xs.getD i 0 else xs.getD j 0 := by
  unfold raiseL
  rw [List.getD_eq_getElem?_getD, List.getElem?_set]
  by_cases e : j = i
  · subst e
    rw [if_pos rfl, if_pos rfl, List.length_set, if_pos hj]; rfl
  · rw [if_neg (fun h => e h.symm), if_neg e, List.getElem?_set]
    by_cases e2 : j = i - 1
    · rw [if_pos e2.symm, if_pos e2, if_pos (by omega)]; rfl
    · rw [if_neg (fun h => e2 h.symm), if_neg e2, List.getD_eq_getElem?_getD]
/-- A number without a candidate. -/
def dropV (a x : Int) : List Int := if x < a then [x] else if a < x then [x - 1] else []
def dropL (a : Int) (xs : List Int) : List Int := xs.flatMap (dropV a)
set_option maxRecDepth 100000 in
theorem dropL_at {a : Int} {xs : List Int} {k : Nat} {x : Int} (hx : xs[k]? = some x) : dropL a (xs.take (k + 1)) = dropL a (xs.take k) ++ dropV a x := by rw [take_at hx]; simp [dropL]
set_option maxRecDepth 100000 in
theorem dropL_len (a : Int) : ∀ xs : List Int, (dropL a xs).length ≤ xs.length
  | [] => by simp [dropL]
  | x :: xs => by
    have ih := dropL_len a xs
    have h1 : (dropV a x).length ≤ 1 := by
      unfold dropV
      split
      · simp
      · split <;> simp
    have e : dropL a (x :: xs) = dropV a x ++ dropL a xs := by unfold dropL; rw [List.flatMap_cons]
    rw [e, List.length_append, List.length_cons]
    omega
def downV (a b : Int) : Int := if a < b then b - 1 else b
set_option maxRecDepth 100000 in
theorem dropL_filter (a : Int) : ∀ xs : List Int, dropL a xs = (xs.filter (fun y => !(y == a))).map (downV a)
  | [] => rfl
  | x :: xs => by
    have ih := dropL_filter a xs
    unfold dropL at ih ⊢
    rw [List.flatMap_cons, ih, List.filter_cons]
    unfold dropV downV
    rcases Int.lt_trichotomy x a with h | h | h
    · have hb : (x == a) = false := by rw [beq_eq_false_iff_ne]; omega
      rw [if_pos h, hb]
      simp; omega
    · subst h
      simp
    · have hb : (x == a) = false := by rw [beq_eq_false_iff_ne]; omega
      rw [if_neg (by omega), if_pos h, hb]
      simp; omega
set_option maxRecDepth 100000 in
theorem dropL_erase {a : Int} {xs : List Int} {i : Nat} (hd : xs.Nodup) (hi : xs[i]? = some a) : dropL a xs = (xs.eraseIdx i).map (downV a) := by rw [dropL_filter, erase_filter hd hi]
/-- Votes of which each ranking is changed. -/
def mapV (F : List Int → List Int) (vs : List Vt) : List Vt := vs.map (fun x => (F x.1, x.2))
set_option maxRecDepth 100000 in
theorem mapV_len (F : List Int → List Int) (vs : List Vt) : (mapV F vs).length = vs.length := by unfold mapV; rw [List.length_map]
/-- The first number below n of which something holds, or -1. -/
def firstN (n : Nat) (q : Nat → Bool) : Int := match (List.range n).find? q with | some k => (k : Int) | none => -1
set_option maxRecDepth 100000 in
theorem firstN_some {n k : Nat} {q : Nat → Bool} (hk : k < n) (h1 : ∀ j, j < k → q j = false) (h2 : q k = true) : firstN n q = k := by
  unfold firstN
  have : (List.range n).find? q = some k := by
    rw [List.find?_range_eq_some]
    exact ⟨h2, List.mem_range.2 hk, fun j hj => by simpa using h1 j hj⟩
  rw [this]
set_option maxRecDepth 100000 in
theorem firstN_none {n : Nat} {q : Nat → Bool} (h : ∀ j, j < n → q j = false) : firstN n q = -1 := by
  unfold firstN
  have : (List.range n).find? q = none := by
    rw [List.find?_eq_none]
    intro x hx
    rw [h x (List.mem_range.1 hx)]; decide
  rw [this]
set_option maxRecDepth 100000 in
theorem none_succ {q : Nat → Bool} {k : Nat} (h : ∀ j, j < k → q j = false) (hk : q k = false) : ∀ j, j < k + 1 → q j = false := fun j hj => by
  rcases Nat.lt_succ_iff_lt_or_eq.1 hj with h1 | rfl
  · exact h j h1
  · exact hk

/-- The weight of one ranking. -/
def cntV (vs : List Vt) (r : List Int) : Int := sumV (fun x => x == r) vs
/-- Each ranking once, with the number of its voters. -/
def mrgV (n : Nat) (vs : List Vt) : List Vt := ((allO n).map (fun r => (r, cntV vs r))).filter (fun x => decide (0 < x.2))

set_option maxRecDepth 100000 in
theorem allO_nodup {n : Nat} (n5 : n ≤ 5) : (allO n).Nodup := by
  match n, n5 with
  | 0, _ => decide +kernel
  | 1, _ => decide +kernel
  | 2, _ => decide +kernel
  | 3, _ => decide +kernel
  | 4, _ => decide +kernel
  | 5, _ => decide +kernel
  | k + 6, h => omega
set_option maxRecDepth 100000 in
theorem allO_len {n : Nat} (n5 : n ≤ 5) : (allO n).length ≤ 120 := by
  match n, n5 with
  | 0, _ => decide +kernel
  | 1, _ => decide +kernel
  | 2, _ => decide +kernel
  | 3, _ => decide +kernel
  | 4, _ => decide +kernel
  | 5, _ => decide +kernel
  | k + 6, h => omega
set_option maxRecDepth 100000 in
theorem one_sum (y : List Int) (k : Int) : ∀ {M : List (List Int)}, M.Nodup → (M.map (fun r => if y == r then k else 0)).sum = if y ∈ M then k else 0
  | [], _ => by simp
  | r :: M, h => by
    have hp := List.nodup_cons.1 h
    rw [List.map_cons, List.sum_cons, one_sum y k hp.2]
    by_cases e : y = r
    · subst e
      rw [if_pos (beq_self_eq_true _), if_neg hp.1, if_pos (by simp)]
      omega
    · have e2 : (y == r) = false := beq_eq_false_iff_ne.2 e
      rw [e2]
      by_cases hm : y ∈ M
      · rw [if_neg (by simp), if_pos hm, if_pos (List.mem_cons_of_mem _ hm)]
        omega
      · rw [if_neg (by simp), if_neg hm, if_neg (fun h => by
          rcases List.mem_cons.1 h with h | h
          · exact e h
          · exact hm h)]
        omega
set_option maxRecDepth 100000 in
theorem map_addS (f g : List Int → Int) : ∀ M : List (List Int), (M.map (fun r => f r + g r)).sum = (M.map f).sum + (M.map g).sum
  | [] => rfl
  | r :: M => by
    rw [List.map_cons, List.map_cons, List.map_cons, List.sum_cons, List.sum_cons, List.sum_cons, map_addS f g M]
    omega
set_option maxRecDepth 100000 in
theorem cntV_cons (x : Vt) (vs : List Vt) (r : List Int) : cntV (x :: vs) r = (if x.1 == r then x.2 else 0) + cntV vs r := by
  unfold cntV
  rw [sumV_cons]
set_option maxRecDepth 100000 in
theorem cntV_zero (M : List (List Int)) : (M.map (cntV [])).sum = 0 := by
  induction M with
  | nil => rfl
  | cons r M ih =>
    rw [List.map_cons, List.sum_cons, ih]
    rfl
set_option maxRecDepth 100000 in
/-- The voters, ranking by ranking. -/
theorem grp_sum (p : List Int → Bool) {L : List (List Int)} (hL : L.Nodup) : ∀ {vs : List Vt}, (∀ x ∈ vs, x.1 ∈ L) → ((L.filter p).map (cntV vs)).sum = sumV p vs
  | [], _ => by rw [cntV_zero]; rfl
  | x :: vs, h => by
    have ih := grp_sum p hL (vs := vs) (fun y hy => h y (List.mem_cons_of_mem _ hy))
    have e : cntV (x :: vs) = fun r => (if x.1 == r then x.2 else 0) + cntV vs r := funext (cntV_cons x vs)
    rw [e, map_addS, ih, one_sum x.1 x.2 (hL.sublist List.filter_sublist), sumV_cons]
    have hx := h x (by simp)
    cases hp : p x.1
    · rw [if_neg (fun hm => by rw [List.mem_filter] at hm; rw [hp] at hm; exact absurd hm.2 (by decide)), if_neg (by decide)]
    · rw [if_pos (List.mem_filter.2 ⟨hx, hp⟩), if_pos rfl]
set_option maxRecDepth 100000 in
theorem pos_sum (p : List Int → Bool) (f : List Int → Int) (hf : ∀ r, 0 ≤ f r) : ∀ L : List (List Int), sumV p ((L.map (fun r => (r, f r))).filter (fun x => decide (0 < x.2))) = ((L.filter p).map f).sum
  | [] => rfl
  | r :: L => by
    have ih := pos_sum p f hf L
    have h0 := hf r
    rw [List.map_cons, List.filter_cons, List.filter_cons]
    by_cases h : 0 < f r
    · rw [if_pos (decide_eq_true h), sumV_cons, ih]
      cases hp : p r
      · simp
      · simp
    · rw [if_neg (by simpa using h), ih]
      have hz : f r = 0 := by omega
      cases hp : p r
      · simp
      · simp [hz]
set_option maxRecDepth 100000 in
theorem cntV_nonneg {sz : Int} {vs : List Vt} (h : SmallV sz vs) (r : List Int) : 0 ≤ cntV vs r := (sumV_bd' h).1
set_option maxRecDepth 100000 in
theorem mrg_sum {n : Nat} {vs : List Vt} (h0 : profOk n vs = true) (p : List Int → Bool) : sumV p (mrgV n vs) = sumV p vs := by
  have hsz := prof_size h0
  have hS := prof_small h0
  unfold mrgV
  rw [pos_sum p (cntV vs) (cntV_nonneg hS)]
  exact grp_sum p (allO_nodup (by omega)) (fun x hx => (allO_mem (by omega) (by omega)).2 (hS.2 x hx).1)
set_option maxRecDepth 100000 in
theorem mrg_mrg {n : Nat} {vs : List Vt} (h0 : profOk n vs = true) : mrgV n (mrgV n vs) = mrgV n vs := by
  have e : cntV (mrgV n vs) = cntV vs := funext fun r => mrg_sum h0 _
  unfold mrgV at e ⊢
  rw [e]
/-- Each vote once. -/
def onesV (vs : List Vt) : List Vt := vs.map (fun x => (x.1, 1))
set_option maxRecDepth 100000 in
theorem ones_cnt (r : List Int) : ∀ vs : List Vt, 0 ≤ cntV (onesV vs) r ∧ (cntV vs r ≠ 0 → 1 ≤ cntV (onesV vs) r)
  | [] => ⟨Int.le_refl 0, fun h => absurd rfl h⟩
  | x :: vs => by
    obtain ⟨h1, h2⟩ := ones_cnt r vs
    have e : onesV (x :: vs) = (x.1, 1) :: onesV vs := rfl
    rw [e, cntV_cons, cntV_cons]
    cases hb : (x.1 == r)
    · rw [if_neg (by simp), if_neg (by simp)]
      exact ⟨by omega, fun h => by have := h2 (by omega); omega⟩
    · rw [if_pos rfl, if_pos rfl]
      exact ⟨by omega, fun _ => by omega⟩
set_option maxRecDepth 100000 in
theorem ones_all (vs : List Vt) : sumV (fun _ => true) (onesV vs) = vs.length := by
  induction vs with
  | nil => rfl
  | cons x vs ih =>
    have e : onesV (x :: vs) = (x.1, 1) :: onesV vs := rfl
    rw [e, sumV_cons, ih, if_pos rfl, List.length_cons]
    omega
set_option maxRecDepth 100000 in
theorem pos_len (f g : List Int → Int) (h : ∀ r, 0 ≤ g r ∧ (0 < f r → 1 ≤ g r)) : ∀ L : List (List Int), (((L.map (fun r => (r, f r))).filter (fun x => decide (0 < x.2))).length : Int) ≤ (L.map g).sum
  | [] => by simp
  | r :: L => by
    have ih := pos_len f g h L
    obtain ⟨h1, h2⟩ := h r
    rw [List.map_cons, List.filter_cons, List.map_cons, List.sum_cons]
    by_cases hp : 0 < f r
    · rw [if_pos (decide_eq_true hp), List.length_cons]
      have := h2 hp
      omega
    · rw [if_neg (by simpa using hp)]
      omega
set_option maxRecDepth 100000 in
theorem mrg_len {n : Nat} {vs : List Vt} (h0 : profOk n vs = true) : (mrgV n vs).length ≤ vs.length := by
  have hsz := prof_size h0
  have hS := prof_small h0
  have h1 := pos_len (cntV vs) (cntV (onesV vs)) (fun r => ⟨(ones_cnt r vs).1, fun h => (ones_cnt r vs).2 (by omega)⟩) (allO n)
  have h2 := grp_sum (fun _ => true) (allO_nodup (n := n) (by omega)) (vs := onesV vs) (fun x hx => by
    obtain ⟨y, hy, rfl⟩ := List.mem_map.1 hx
    exact (allO_mem (by omega) (by omega)).2 (hS.2 y hy).1)
  rw [ones_all, List.filter_eq_self.2 (fun _ _ => rfl)] at h2
  rw [h2] at h1
  have h3 : ((mrgV n vs).length : Int) ≤ (vs.length : Nat) := h1
  omega
set_option maxRecDepth 100000 in
theorem sumV_leA {p : List Int → Bool} {sz : Int} : ∀ {vs : List Vt}, SmallV sz vs → sumV p vs ≤ allV vs
  | [], _ => by simp [sumV, allV]
  | x :: vs, h => by
    have ih := sumV_leA (p := p) h.tail
    have hx := h.head
    rw [sumV_cons, allV_cons]
    split <;> omega
set_option maxRecDepth 100000 in
theorem mrg_ok {n : Nat} {vs : List Vt} (h0 : profOk n vs = true) (hv : allV vs ≤ 1000) : profOk n (mrgV n vs) = true := by
  have hsz := prof_size h0
  have hS := prof_small h0
  have hl := mrg_len h0
  have hS1 := hS.1
  simp only [profOk, Bool.and_eq_true, decide_eq_true_eq, List.all_eq_true]
  refine ⟨inR_iff.2 (by omega), by omega, fun x hx => ?_⟩
  unfold mrgV at hx
  obtain ⟨h1, h2⟩ := List.mem_filter.1 hx
  obtain ⟨r, hr, rfl⟩ := List.mem_map.1 h1
  have hpos : 0 < cntV vs r := by simpa using h2
  have hle : cntV vs r ≤ allV vs := sumV_leA hS
  simp only [vtOk, Bool.and_eq_true]
  exact ⟨(allO_mem (by omega) (by omega)).1 hr, inR_iff.2 (by show 1 ≤ cntV vs r ∧ cntV vs r ≤ 1000; omega)⟩
set_option maxRecDepth 100000 in
theorem mrg_all {n : Nat} {vs : List Vt} (h0 : profOk n vs = true) : allV (mrgV n vs) = allV vs := mrg_sum h0 _
set_option maxRecDepth 100000 in
theorem mrg_margin {n : Nat} {vs : List Vt} (h0 : profOk n vs = true) (a b : Int) : marginV (mrgV n vs) a b = marginV vs a b := by
  unfold marginV pairV
  rw [mrg_sum h0, mrg_sum h0]
set_option maxRecDepth 100000 in
theorem mapV_sum (p : List Int → Bool) (F : List Int → List Int) : ∀ vs : List Vt, sumV p (mapV F vs) = sumV (fun r => p (F r)) vs
  | [] => rfl
  | x :: vs => by
    have e : mapV F (x :: vs) = (F x.1, x.2) :: mapV F vs := rfl
    rw [e, sumV_cons, sumV_cons, mapV_sum p F vs]
set_option maxRecDepth 100000 in
theorem mapV_ok {n : Nat} {F : List Int → List Int} {m : Nat} (m1 : 1 ≤ m) (m5 : m ≤ 5) (hF : ∀ r, rkOk n r = true → rkOk m (F r) = true) {vs : List Vt} (h0 : profOk n vs = true) : profOk m (mapV F vs) = true := by
  have hS := prof_small h0
  have hS1 := hS.1
  simp only [profOk, Bool.and_eq_true, decide_eq_true_eq, List.all_eq_true]
  refine ⟨inR_iff.2 (by omega), by rw [mapV_len]; omega, fun x hx => ?_⟩
  obtain ⟨y, hy, rfl⟩ := List.mem_map.1 hx
  obtain ⟨h1, h2, h3⟩ := hS.2 y hy
  simp only [vtOk, Bool.and_eq_true]
  exact ⟨hF _ h1, inR_iff.2 ⟨h2, h3⟩⟩
set_option maxRecDepth 100000 in
theorem map_margin {n : Nat} {F : List Int → List Int} {a b a' b' : Int} {vs : List Vt} (h0 : profOk n vs = true) (h1 : ∀ r, rkOk n r = true → prefB (F r) a' b' = prefB r a b) (h2 : ∀ r, rkOk n r = true → prefB (F r) b' a' = prefB r b a) : marginV (mapV F vs) a' b' = marginV vs a b := by
  have hS := prof_small h0
  unfold marginV pairV
  rw [mapV_sum, mapV_sum, sumV_congr (p := fun r => prefB (F r) a' b') (q := fun r => prefB r a b) (fun x hx => h1 x.1 (hS.2 x hx).1), sumV_congr (p := fun r => prefB (F r) b' a') (q := fun r => prefB r b a) (fun x hx => h2 x.1 (hS.2 x hx).1)]

/-- Finite checks. -/
def chkRev (n : Nat) : Bool := (allO n).all fun r => rkOk n r.reverse && (List.range n).all fun a => (List.range n).all fun b => prefB r.reverse a b == prefB r b a
set_option maxRecDepth 100000 in
theorem chk_rev : chkRev 1 = true ∧ chkRev 2 = true ∧ chkRev 3 = true ∧ chkRev 4 = true := by decide +kernel
set_option maxRecDepth 100000 in
theorem rev_ok {n : Nat} (n1 : 1 ≤ n) (n4 : n ≤ 4) {r : List Int} (h : rkOk n r = true) : rkOk n r.reverse = true ∧ ∀ a b : Nat, a < n → b < n → prefB r.reverse a b = prefB r b a := by
  have hc : chkRev n = true := by
    obtain ⟨h1, h2, h3, h4⟩ := chk_rev
    rcases (show n = 1 ∨ n = 2 ∨ n = 3 ∨ n = 4 by omega) with rfl | rfl | rfl | rfl
    · exact h1
    · exact h2
    · exact h3
    · exact h4
  have := List.all_eq_true.1 hc r ((allO_mem n1 (by omega)).2 h)
  rw [Bool.and_eq_true] at this
  refine ⟨this.1, fun a b ha hb => ?_⟩
  have h2 := List.all_eq_true.1 (List.all_eq_true.1 this.2 a (List.mem_range.2 ha)) b (List.mem_range.2 hb)
  exact eq_of_beq h2
def renL (ns xs : List Int) : List Int := xs.map (fun x => ns.getD x.toNat 0)
def chkRen (n : Nat) : Bool := (allO n).all fun ns => (allO n).all fun r => rkOk n (renL ns r) && (List.range n).all fun a => (List.range n).all fun b => prefB (renL ns r) (ns.getD a 0) (ns.getD b 0) == prefB r a b
set_option maxRecDepth 100000 in
theorem chk_ren : chkRen 1 = true ∧ chkRen 2 = true ∧ chkRen 3 = true ∧ chkRen 4 = true := by decide +kernel
set_option maxRecDepth 100000 in
theorem ren_ok {n : Nat} (n1 : 1 ≤ n) (n4 : n ≤ 4) {ns r : List Int} (hn : rkOk n ns = true) (h : rkOk n r = true) : rkOk n (renL ns r) = true ∧ ∀ a b : Nat, a < n → b < n → prefB (renL ns r) (ns.getD a 0) (ns.getD b 0) = prefB r a b := by
  have hc : chkRen n = true := by
    obtain ⟨h1, h2, h3, h4⟩ := chk_ren
    rcases (show n = 1 ∨ n = 2 ∨ n = 3 ∨ n = 4 by omega) with rfl | rfl | rfl | rfl
    · exact h1
    · exact h2
    · exact h3
    · exact h4
  have := List.all_eq_true.1 (List.all_eq_true.1 hc ns ((allO_mem n1 (by omega)).2 hn)) r ((allO_mem n1 (by omega)).2 h)
  rw [Bool.and_eq_true] at this
  refine ⟨this.1, fun a b ha hb => ?_⟩
  have h2 := List.all_eq_true.1 (List.all_eq_true.1 this.2 a (List.mem_range.2 ha)) b (List.mem_range.2 hb)
  exact eq_of_beq h2
def chkDrp (n : Nat) : Bool := (allO n).all fun r => rkOk (n - 1 : Nat) (dropL (n - 1 : Nat) r) && (prefB (dropL (n - 1 : Nat) r) 0 1 == prefB r 0 1 && prefB (dropL (n - 1 : Nat) r) 1 0 == prefB r 1 0)
set_option maxRecDepth 100000 in
theorem chk_drp : chkDrp 3 = true ∧ chkDrp 4 = true := by decide +kernel
set_option maxRecDepth 100000 in
theorem drp_ok {n : Nat} (n3 : 3 ≤ n) (n4 : n ≤ 4) {r : List Int} (h : rkOk n r = true) : rkOk (n - 1 : Nat) (dropL (n - 1 : Nat) r) = true ∧ prefB (dropL (n - 1 : Nat) r) 0 1 = prefB r 0 1 ∧ prefB (dropL (n - 1 : Nat) r) 1 0 = prefB r 1 0 := by
  have hc : chkDrp n = true := by
    obtain ⟨h3, h4⟩ := chk_drp
    rcases (show n = 3 ∨ n = 4 by omega) with rfl | rfl
    · exact h3
    · exact h4
  have := List.all_eq_true.1 hc r ((allO_mem (by omega) (by omega)).2 h)
  rw [Bool.and_eq_true, Bool.and_eq_true] at this
  exact ⟨this.1, eq_of_beq this.2.1, eq_of_beq this.2.2⟩
/-- What FnProfiles says. -/
structure PrfF (n : Nat) (vs : List Vt) (ns : List Int) : Prop where
  mok : profOk n (mrgV n vs) = true
  mlen : (mrgV n vs).length ≤ vs.length
  mall : allV (mrgV n vs) = allV vs
  mmrg : mrgV n (mrgV n vs) = mrgV n vs
  rok : profOk n (mapV List.reverse vs) = true
  sok : profOk n (mapV (renL ns) vs) = true
  tot : ∀ a b : Nat, a < n → b < n → a ≠ b → pairV vs a b + pairV vs b a = allV vs
  mmar : ∀ a b : Int, marginV (mrgV n vs) a b = marginV vs a b
  rmar : ∀ a b : Nat, a < n → b < n → marginV (mapV List.reverse vs) a b = - marginV vs a b
  smar : ∀ a b : Nat, a < n → b < n → marginV (mapV (renL ns) vs) (ns.getD a 0) (ns.getD b 0) = marginV vs a b
  dmar : 3 ≤ n → profOk (n - 1 : Nat) (mapV (dropL (n - 1 : Nat)) vs) = true ∧ marginV (mapV (dropL (n - 1 : Nat)) vs) 0 1 = marginV vs 0 1
set_option maxRecDepth 100000 in
theorem prf_f {n : Nat} (n1 : 1 ≤ n) (n4 : n ≤ 4) {vs : List Vt} {ns : List Int} (h0 : profOk n vs = true) (hv : allV vs ≤ 1000) (hn : rkOk n ns = true) : PrfF n vs ns where
  mok := mrg_ok h0 hv
  mlen := mrg_len h0
  mall := mrg_all h0
  mmrg := mrg_mrg h0
  rok := mapV_ok n1 (by omega) (fun r h => (rev_ok n1 n4 h).1) h0
  sok := mapV_ok n1 (by omega) (fun r h => (ren_ok n1 n4 hn h).1) h0
  tot := fun a b ha hb hne => pair_tot ha hb hne (prof_small h0)
  mmar := mrg_margin h0
  rmar := fun a b ha hb => by
    rw [map_margin (a := b) (b := a) h0 (fun r h => (rev_ok n1 n4 h).2 a b ha hb) (fun r h => (rev_ok n1 n4 h).2 b a hb ha)]
    unfold marginV
    omega
  smar := fun a b ha hb => map_margin h0 (fun r h => (ren_ok n1 n4 hn h).2 a b ha hb) (fun r h => (ren_ok n1 n4 hn h).2 b a hb ha)
  dmar := fun h3 => ⟨mapV_ok (by omega) (by omega) (fun r h => (drp_ok h3 n4 h).1) h0, map_margin h0 (fun r h => (drp_ok h3 n4 h).2.1) (fun r h => (drp_ok h3 n4 h).2.2)⟩

set_option maxRecDepth 100000 in
set_option maxHeartbeats 1000000 in
theorem indexFuncR (K : Nat) (fst cap : Array Value) (p : List Int → Bool) (w : World) (B : Nat) (a : Option Addr) (c : Nat) (xss : List (List Int)) (hR : RdSS w B (.slice a xss.length c) xss) (hl : xss.length ≤ 2000000) (hK : Enters Try.prog K)
    (hf : ∀ (xs : List Int) (a' : Option Addr) (c' : Nat) (w' : World), xs ∈ xss → RdI w' a' xs → Ext w w' → Calls Try.prog K (fst.push (.slice a' xs.length c') ++ cap) w' fun e w'' => e = .returned (.bool (p xs)) ∧ Ext w' w'') :
    Calls Try.prog 69 #[.slice a xss.length c, .func (.func K) fst cap] w fun e w' => e = .returned (.int .i64 (findI p xss)) ∧ Ext w w' := by
  unfold Enters at hK
  have HF := hide hf
  clear hf
  go_enter Try.func69, Try.ntmps69
  go_wp2_with fail
  go_loopw [5, 8] (fun _ i wr => ∃ k : Nat, k ≤ xss.length ∧ i = .int .i64 k ∧ Hid ((xss.take k).all (fun x => !p x) = true) ∧ Ext w wr) (fun _ i _ => xss.length - (intOf i).toNat)
  case atStart => exact ⟨0, Nat.zero_le _, rfl, rfl, Ext.refl _⟩
  case round =>
    obtain ⟨k, hk, rfl, hall, hwr⟩ := hrel
    by_cases hlt : k < xss.length
    · obtain ⟨x, hx⟩ := at_of_lt hlt
      obtain ⟨b, off, a', c', rfl, c0, hRx⟩ := (hR.ext hwr).at_ hx
      have HX := hide hx
      clear hx
      cases hp : p x
      all_goals
        go_wp2_with fail
        refine (HF.out x a' c' wr (List.mem_of_getElem? HX.out) hRx hwr).mono ?_
        rintro e w1 ⟨rfl, hw1⟩
        go_wp2
      · exact ⟨⟨k + 1, by omega, by go_num, (all_take HX.out hall.out).trans (by simp [hp]), hwr.trans hw1⟩, by simp [intOf]; omega⟩
      · go_ret
        exact ⟨ret_int (findI_some HX.out hall.out hp).symm, hwr.trans hw1⟩
    · go_wp2
      go_ret
      exact ⟨ret_int (findI_none (all_whole (by omega) hall.out)).symm, hwr⟩

end Go.Proofs.Ytkbbcglghfddjaa
