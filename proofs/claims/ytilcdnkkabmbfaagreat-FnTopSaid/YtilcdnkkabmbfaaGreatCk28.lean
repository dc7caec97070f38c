/- Neighbours of a ranking change places: what that does to its costs (plain law). Transitivity of the beats relation. What FnPairs says of a profile (plain law). -/
import Derived.Test.YtilcdnkkabmbfaaGreatCk27
import Derived.Test.YtilcdnkkabmbfaaGreatCk7
import Derived.Test.YtilcdnkkabmbfaaGreatCk13
import Derived.Test.YtilcdnkkabmbfaaGreatCk20
import Derived.Test.YtilcdnkkabmbfaaGreatCk5
import Derived.Test.YtilcdnkkabmbfaaGreatCk14
import Derived.Test.YtilcdnkkabmbfaaGreatCk9
namespace Go.Proofs.YtilcdnkkabmbfaaGreat
open Go.RowKit

set_option maxRecDepth 100000 in
/-- Neighbours change places. -/
theorem bkI_nb (q : Int → Int → Bool) (a b : Int) (ys : List Int) : ∀ xs : List Int, bkI q (xs ++ a :: b :: ys) + (if q a b then 1 else 0) = bkI q (xs ++ b :: a :: ys) + (if q b a then 1 else 0)
  | [] => by
    rw [List.nil_append, List.nil_append, bkI, bkI, bkI, bkI, List.countP_cons, List.countP_cons]
    omega
  | x :: xs => by
    have ih := bkI_nb q a b ys xs
    rw [List.cons_append, List.cons_append, bkI, bkI]
    have hp : (xs ++ a :: b :: ys).Perm (xs ++ b :: a :: ys) := List.Perm.append_left xs (List.Perm.swap b a ys)
    rw [hp.countP_eq]
    omega
set_option maxRecDepth 100000 in
theorem placeI_cons (x a : Int) (xs : List Int) : placeI (x :: xs) a = if a = x then 0 else if placeI xs a < 0 then -1 else placeI xs a + 1 := by
  by_cases e : a = x
  · rw [if_pos e]
    unfold placeI
    exact findI_some (k := 0) (x := x) rfl (by simp) (by simp [e])
  · rw [if_neg e]
    unfold placeI findI
    rw [List.findIdx?_cons]
    have : (a == x) = false := by simpa using e
    simp only [this, Bool.false_eq_true, if_false]
    cases xs.findIdx? (fun y => a == y) with
    | none => rfl
    | some k =>
      have h1 : ¬ ((k : Nat) : Int) < 0 := by omega
      simp only [Option.map_some, h1, if_false]
      omega
set_option maxRecDepth 100000 in
/-- A count of pairs, from the places. -/
theorem bkI_pairs (q : Int → Int → Bool) : ∀ {xs : List Int}, xs.Nodup → bkI q xs = (xs.map (fun a => xs.countP (fun b => prefB xs a b && q b a))).sum
  | [], _ => rfl
  | x :: xs, hd => by
    rw [List.nodup_cons] at hd
    have ih := bkI_pairs q hd.2
    have hpl : ∀ a ∈ xs, 0 ≤ placeI xs a := fun a ha => by
      have := (place_in (xs := xs) (a := a))
      by_cases h : placeI xs a < 0
      · exact absurd ha (this.1 h)
      · omega
    have hne : ∀ a ∈ xs, a ≠ x := fun a ha e => hd.1 (e ▸ ha)
    rw [bkI, List.map_cons, List.sum_cons, ih]
    have h1 : (x :: xs).countP (fun b => prefB (x :: xs) x b && q b x) = xs.countP (fun y => q y x) := by
      rw [List.countP_cons, pref_self, Bool.false_and]
      simp only [Bool.false_eq_true, if_false, Nat.add_zero]
      refine List.countP_congr (fun b hb => ?_)
      have h2 := hpl b hb
      have : prefB (x :: xs) x b = true := by
        unfold prefB
        rw [placeI_cons, placeI_cons, if_pos rfl, if_neg (hne b hb), if_neg (by omega)]
        simp only [Bool.and_eq_true, decide_eq_true_eq]
        omega
      rw [this, Bool.true_and]
    have h2 : xs.map (fun a => (x :: xs).countP (fun b => prefB (x :: xs) a b && q b a)) = xs.map (fun a => xs.countP (fun b => prefB xs a b && q b a)) := by
      refine List.map_congr_left (fun a ha => ?_)
      have ha0 := hpl a ha
      have hn := hne a ha
      have e1 : prefB (x :: xs) a x = false := by
        unfold prefB
        rw [placeI_cons, placeI_cons, if_pos rfl, if_neg hn, if_neg (by omega)]
        have : ¬ placeI xs a + 1 < 0 := by omega
        simp [this]
      rw [List.countP_cons, e1, Bool.false_and]
      simp only [Bool.false_eq_true, if_false, Nat.add_zero]
      refine List.countP_congr (fun b hb => ?_)
      have hb0 := hpl b hb
      have e2 : prefB (x :: xs) a b = prefB xs a b := by
        unfold prefB
        rw [placeI_cons, placeI_cons, if_neg hn, if_neg (hne b hb), if_neg (by omega), if_neg (by omega)]
        have d1 : decide (0 ≤ placeI xs a + 1) = decide (0 ≤ placeI xs a) := decide_eq_decide.2 (by omega)
        have d2 : decide (0 ≤ placeI xs b + 1) = decide (0 ≤ placeI xs b) := decide_eq_decide.2 (by omega)
        have d3 : decide (placeI xs a + 1 < placeI xs b + 1) = decide (placeI xs a < placeI xs b) := decide_eq_decide.2 (by omega)
        rw [d1, d2, d3]
      rw [e2]
    rw [h1, h2]
set_option maxRecDepth 100000 in
theorem natSum_cast : ∀ xs : List Nat, ((xs.sum : Nat) : Int) = (xs.map (fun x : Nat => (x : Int))).sum
  | [] => rfl
  | x :: xs => by rw [List.sum_cons, List.map_cons, List.sum_cons, ← natSum_cast xs]; omega
set_option maxRecDepth 100000 in
theorem rk_sum {n : Nat} {r : List Int} (h : rkOk n r = true) (f : Int → Int) : (r.map f).sum = sgN (fun a => f (a : Int)) n := by
  rw [perm_sum ((rk_perm h).map f), upL_sum]
  exact sgN_congr (fun i _ => by simp)
set_option maxRecDepth 100000 in
/-- The pairs that two rankings order otherwise, one by one. -/
theorem bkI_sg {n : Nat} {r : List Int} (h : rkOk n r = true) (q : Int → Int → Bool) : (bkI q r : Int) = sgN (fun a => sgN (fun b => if prefB r a b && q b a then 1 else 0) n) n := by
  rw [bkI_pairs q (rk_nodup h), natSum_cast, List.map_map]
  have : ((fun x : Nat => (x : Int)) ∘ fun a => r.countP (fun b => prefB r a b && q b a)) = fun a : Int => ((cntN n (fun j : Nat => prefB r a (j : Int) && q (j : Int) a) : Nat) : Int) := by
    funext a
    show ((r.countP (fun b => prefB r a b && q b a) : Nat) : Int) = _
    rw [cntN_perm h (fun b => prefB r a b && q b a)]
  rw [this, rk_sum h (fun a : Int => ((cntN n (fun j : Nat => prefB r a (j : Int) && q (j : Int) a) : Nat) : Int))]
  exact sgN_congr (fun a _ => cntN_sg _ n)
set_option maxRecDepth 100000 in
theorem swap_sym {n : Nat} {xs r : List Int} (hx : rkOk n xs = true) (hr : rkOk n r = true) : (swapN xs r : Int) = swapN r xs := by
  unfold swapN
  rw [bkI_sg hx, bkI_sg hr, sgN_swap (fun a b => if prefB xs (a : Int) b && prefB r b a then (1 : Int) else 0)]
  refine sgN_congr (fun b _ => sgN_congr (fun a _ => ?_))
  rw [Bool.and_comm]
set_option maxRecDepth 100000 in
/-- The cost when neighbours change places. -/
theorem kem_nb {n : Nat} {a b : Int} {xs ys : List Int} (h1 : rkOk n (xs ++ a :: b :: ys) = true) (h2 : rkOk n (xs ++ b :: a :: ys) = true) : ∀ {vs : List Vt}, SmallV n vs → kemV vs (xs ++ a :: b :: ys) + pairV vs a b = kemV vs (xs ++ b :: a :: ys) + pairV vs b a
  | [], _ => by rfl
  | x :: vs, h => by
    have ih := kem_nb h1 h2 h.tail
    have e : ∀ r, kemV (x :: vs) r = x.2 * (swapN x.1 r : Int) + kemV vs r := fun r => by simp [kemV]
    rw [e, e]
    unfold pairV at ih ⊢
    rw [sumV_cons, sumV_cons, swap_sym h.head.1 h1, swap_sym h.head.1 h2]
    have h3 := bkI_nb (fun y z => prefB x.1 y z) a b ys xs
    unfold swapN
    generalize bkI (fun y z => prefB x.1 y z) (xs ++ a :: b :: ys) = A at h3 ⊢
    generalize bkI (fun y z => prefB x.1 y z) (xs ++ b :: a :: ys) = B at h3 ⊢
    have key : ∀ (p q : Bool), A + (if p then 1 else 0) = B + (if q then 1 else 0) → (A : Int) + (if p then 1 else 0) = (B : Int) + (if q then 1 else 0) := by
      intro p q h
      cases p <;> cases q <;> simp at h ⊢ <;> omega
    have h4 := key _ _ h3
    generalize (A : Int) = A' at h4 ⊢
    generalize (B : Int) = B' at h4 ⊢
    have h5 := congrArg (fun z => x.2 * z) h4
    simp only [Int.mul_add] at h5
    have key2 : ∀ (p q : Bool) (u v S T : Int), S + u = T + v → x.2 * A' + x.2 * (if p then 1 else 0) = x.2 * B' + x.2 * (if q then 1 else 0) → x.2 * A' + S + ((if p then x.2 else 0) + u) = x.2 * B' + T + ((if q then x.2 else 0) + v) := by
      intro p q u v S T h1 h2
      cases p <;> cases q <;> simp at h2 ⊢ <;> omega
    exact key2 _ _ _ _ _ _ ih h5
set_option maxRecDepth 100000 in
/-- A ranking with the least cost. -/
theorem lstT_min {cost : List Int → Int} {xss : List (List Int)} : ∀ k, k ≤ xss.length → (∀ j r, j < k → xss[j]? = some r → (lstT cost xss k).2.1 ≤ cost r) ∧ (1 ≤ k → 1 ≤ (lstT cost xss k).2.2)
  | 0, _ => ⟨fun j r hj => by omega, fun h => by omega⟩
  | k + 1, hk => by
    obtain ⟨r, hr⟩ := at_of_lt (xs := xss) (k := k) (by omega)
    have ih := lstT_min (cost := cost) (xss := xss) k (by omega)
    have hin : ∀ {j : Nat} {r' : List Int}, j < k + 1 → xss[j]? = some r' → (j < k ∨ r' = r) := fun {j r'} hj h => by
      by_cases e : j = k
      · subst e; rw [hr] at h; injection h with h; exact .inr h.symm
      · exact .inl (by omega)
    by_cases h0 : k = 0 ∨ cost r < (lstT cost xss k).2.1
    · rw [lstT_new hr h0]
      refine ⟨fun j r' hj h => ?_, fun _ => Nat.le_refl _⟩
      rcases hin hj h with h1 | h1
      · have := ih.1 j r' h1 h
        show cost r ≤ cost r'
        rcases h0 with h0 | h0 <;> omega
      · rw [h1]; exact Int.le_refl _
    · by_cases he : cost r = (lstT cost xss k).2.1
      · rw [lstT_tie hr (by omega) he]
        refine ⟨fun j r' hj h => ?_, fun _ => by show 1 ≤ _ + 1; omega⟩
        rcases hin hj h with h1 | h1
        · exact ih.1 j r' h1 h
        · rw [h1]; show (lstT cost xss k).2.1 ≤ cost r; omega
      · rw [lstT_old hr (by omega) (by omega)]
        refine ⟨fun j r' hj h => ?_, fun _ => ih.2 (by omega)⟩
        rcases hin hj h with h1 | h1
        · exact ih.1 j r' h1 h
        · rw [h1]; omega
set_option maxRecDepth 100000 in
theorem lst_min {cost : List Int → Int} {n : Nat} (n1 : 1 ≤ n) (n5 : n ≤ 5) : rkOk n (lstR cost n).1 = true ∧ (lstR cost n).2.1 = cost (lstR cost n).1 ∧ (∀ r, rkOk n r = true → cost (lstR cost n).1 ≤ cost r) ∧ 1 ≤ (lstR cost n).2.2 := by
  have hm := lstR_mem (cost := cost) n1 n5
  have h2 := lstT_min (cost := cost) (xss := allO n) _ (Nat.le_refl _)
  refine ⟨(allO_mem n1 n5).1 hm.1, hm.2, fun r hr => ?_, h2.2 (allO_pos n1 n5)⟩
  obtain ⟨j, hj⟩ := List.mem_iff_getElem?.1 ((allO_mem n1 n5).2 hr)
  rw [← hm.2]
  exact h2.1 j r (lt_of_at hj) hj
set_option maxRecDepth 100000 in
/-- Either all stand in order, or two neighbours do not. -/
theorem nb_or {R : Int → Int → Prop} (ht : ∀ a b c, R a b → R b c → R a c) : ∀ r : List Int, r.Pairwise R ∨ ∃ xs a b ys, r = xs ++ a :: b :: ys ∧ ¬ R a b
  | [] => .inl List.Pairwise.nil
  | [x] => .inl (by simp)
  | x :: y :: ys => by
    rcases nb_or ht (y :: ys) with h | ⟨xs, a, b, zs, e, hn⟩
    · by_cases hxy : R x y
      · refine .inl (List.pairwise_cons.2 ⟨fun z hz => ?_, h⟩)
        rcases List.mem_cons.1 hz with rfl | hz
        · exact hxy
        · exact ht _ _ _ hxy ((List.pairwise_cons.1 h).1 z hz)
      · exact .inr ⟨[], x, y, ys, rfl, hxy⟩
    · exact .inr ⟨x :: xs, a, b, zs, by rw [e]; rfl, hn⟩
set_option maxRecDepth 100000 in
theorem rk_nb {n : Nat} {xs ys : List Int} {a b : Int} (h : rkOk n (xs ++ a :: b :: ys) = true) : rkOk n (xs ++ b :: a :: ys) = true := rk_perm_ok (List.Perm.append_left xs (List.Perm.swap a b ys)) h

def transC (vs : List Vt) (a b c : Nat) : Bool := !(beatsV vs a b && (beatsV vs b c && !beatsV vs a c))
def transB (n : Nat) (vs : List Vt) (a b : Nat) : Bool := allN n (transC vs a b)
def transA (n : Nat) (vs : List Vt) (a : Nat) : Bool := allN n (transB n vs a)
def transO (sz : Int) (vs : List Vt) : Bool := profOk sz vs && allN sz.toNat (transA sz.toNat vs)
set_option maxRecDepth 100000 in
theorem trans_no {n : Nat} {vs : List Vt} {a b c : Nat} (ha : a < n) (hb : b < n) (hc : c < n) (h : transC vs a b c = false) : allN n (transA n vs) = false :=
  allN_f ha (allN_f hb (allN_f hc h))

set_option maxRecDepth 100000 in
/-- Won and lost comparisons are as many. -/
theorem cope_sum (n : Nat) (vs : List Vt) : sgN (copeV n vs) n = 0 := by
  have e : sgN (copeV n vs) n = sgN (fun i => sgN (fun j => if bt vs i j then 1 else 0) n) n - sgN (fun i => sgN (fun j => if bt vs j i then 1 else 0) n) n := by
    rw [← sgN_sub]
    refine sgN_congr (fun i _ => ?_)
    unfold copeV
    rw [cntN_sg, cntN_sg]
  rw [e, sgN_swap (fun i j => if bt vs i j then (1 : Int) else 0)]
  omega
set_option maxRecDepth 100000 in
theorem cope_win {n : Nat} {vs : List Vt} {w : Nat} (hw : w < n) (hb : ∀ j, j < n → j ≠ w → bt vs w j = true) : copeV n vs w = (n : Int) - 1 := by
  unfold copeV
  have h1 : cntN n (bt vs w) = n - 1 := (full_those hw (bt_self vs w)).2 (those_iff.2 hb)
  have h2 : cntN n (fun j => bt vs j w) = 0 := cntN_none.2 (allN_t fun j hj => by
    by_cases e : j = w
    · rw [e, bt_self]; rfl
    · rw [bt_anti vs _ _ (hb j hj e)]; rfl)
  rw [h1, h2]
  omega
/-- A ranking in which each beats all behind it. -/
structure MjF (n : Nat) (vs : List Vt) : Prop where
  rk : rkOk n (mjL n vs) = true
  fst : (mjL n vs)[0]? = some (winnerO n vs)
  tr : transO n vs = true
  lst : (mjL n vs)[n - 1]? = some (loserO n vs)
set_option maxRecDepth 100000 in
theorem mj_pair {n : Nat} {vs : List Vt} (h0 : profOk n vs = true) (h : mjB n vs = true) : rkOk n (mjL n vs) = true ∧ (mjL n vs).Pairwise (fun x y => beatsV vs x y = true) := by
  have hsz := prof_size h0
  unfold mjB at h
  rw [if_pos h0, Int.toNat_natCast] at h
  obtain ⟨r, hr⟩ := Option.isSome_iff_exists.1 h
  have e : mjL n vs = r := by unfold mjL; rw [if_pos h0, Int.toNat_natCast, hr]; rfl
  rw [e]
  unfold mjO at hr
  exact ⟨(allO_mem (by omega) (by omega)).1 (List.mem_of_find?_eq_some hr), mjOk_iff.1 (List.find?_some hr)⟩
set_option maxRecDepth 100000 in
theorem pw_lt {R : Int → Int → Prop} {xs : List Int} (h : xs.Pairwise R) {i j : Nat} {x y : Int} (hij : i < j) (hx : xs[i]? = some x) (hy : xs[j]? = some y) : R x y := by
  have l1 := lt_of_at hx
  have l2 := lt_of_at hy
  have := List.pairwise_iff_getElem.1 h i j l1 l2 hij
  rw [List.getElem?_eq_getElem l1] at hx
  rw [List.getElem?_eq_getElem l2] at hy
  injection hx with hx
  injection hy with hy
  rw [← hx, ← hy]
  exact this
set_option maxRecDepth 100000 in
theorem only_one {n : Nat} {vs : List Vt} (h0 : profOk n vs = true) {p : Nat → Nat → Bool} (ha : ∀ i j, p i j = true → p j i = false) {w : Nat} (hw : w < n) (hb : ∀ j, j < n → j ≠ w → p w j = true) : onlyL (thoseO n vs p) = w := by
  rw [thoseO_eq h0, upL_one hw (those_iff.2 hb) (fun j hj hq => ?_)]
  · rfl
  · by_cases e : j = w
    · exact e
    · have h1 := hb j hj e
      have h2 := those_iff.1 hq w hw (fun h => e h.symm)
      rw [ha _ _ h1] at h2
      cases h2
set_option maxRecDepth 100000 in
theorem pw_place {n : Nat} {vs : List Vt} {r : List Int} (hk : rkOk n r = true) (hp : r.Pairwise (fun x y => beatsV vs x y = true)) {a b : Nat} (ha : a < n) (hb : b < n) : (bt vs a b = true ↔ placeI r a < placeI r b) := by
  obtain ⟨i, _, ei, hi, _⟩ := place_at hk ha
  obtain ⟨j, _, ej, hj, hu⟩ := place_at hk hb
  rw [ei, ej]
  constructor
  · intro h
    by_cases hlt : i < j
    · omega
    · by_cases e : i = j
      · rw [e, hj] at hi
        injection hi with hi
        have : b = a := by omega
        rw [this, bt_self] at h
        cases h
      · have h2 : beatsV vs b a = true := pw_lt hp (show j < i by omega) hj hi
        have h3 := bt_anti vs _ _ h
        unfold bt at h3
        rw [h2] at h3
        cases h3
  · intro h
    exact pw_lt hp (show i < j by omega) hi hj
set_option maxRecDepth 100000 in
theorem mj_f {n : Nat} {vs : List Vt} (h0 : profOk n vs = true) (h : mjB n vs = true) : MjF n vs := by
  have hsz := prof_size h0
  obtain ⟨hk, hp⟩ := mj_pair h0 h
  generalize hr : mjL n vs = r at hk hp
  have hl := (rk_len hk).1
  refine ⟨by rw [hr]; exact hk, ?_, ?_, ?_⟩
  · rw [hr]
    obtain ⟨x, hx⟩ := at_of_lt (xs := r) (k := 0) (by omega)
    have hm := rk_mem hk (List.mem_of_getElem? hx)
    obtain ⟨w, rfl⟩ : ∃ w : Nat, x = w := ⟨x.toNat, by omega⟩
    have hw : w < n := by omega
    obtain ⟨i, _, ei, _, hu⟩ := place_at hk hw
    have := hu 0 hx
    unfold winnerO
    rw [hx, only_one h0 (p := bt vs) (fun i j => bt_anti vs i j) hw (fun j hj hne => ?_)]
    rw [pw_place hk hp hw hj, ei]
    obtain ⟨q, _, eq, hq, _⟩ := place_at hk hj
    rw [eq]
    by_cases e : q = 0
    · rw [e, hx] at hq
      injection hq with hq
      omega
    · omega
  · unfold transO
    rw [h0, Int.toNat_natCast, Bool.true_and]
    refine allN_t fun a ha => allN_t fun b hb => allN_t fun c hc => ?_
    unfold transC
    cases h1 : beatsV vs a b
    · rfl
    · cases h2 : beatsV vs b c
      · rfl
      · have h3 := (pw_place hk hp ha hb).1 h1
        have h4 := (pw_place hk hp hb hc).1 h2
        have h5 : beatsV vs a c = true := (pw_place hk hp ha hc).2 (by omega)
        rw [h5]; rfl
  · rw [hr]
    obtain ⟨x, hx⟩ := at_of_lt (xs := r) (k := n - 1) (by omega)
    have hm := rk_mem hk (List.mem_of_getElem? hx)
    obtain ⟨w, rfl⟩ : ∃ w : Nat, x = w := ⟨x.toNat, by omega⟩
    have hw : w < n := by omega
    obtain ⟨i, _, ei, _, hu⟩ := place_at hk hw
    have := hu (n - 1) hx
    unfold loserO
    rw [hx, only_one h0 (p := fun i j => bt vs j i) (fun i j => bt_anti vs j i) hw (fun j hj hne => ?_)]
    show bt vs j w = true
    rw [pw_place hk hp hj hw, ei]
    obtain ⟨q, hqn, eq, hq, _⟩ := place_at hk hj
    rw [eq]
    by_cases e : q = n - 1
    · rw [e, hx] at hq
      injection hq with hq
      omega
    · omega
set_option maxRecDepth 100000 in
theorem mj_one {vs : List Vt} (h0 : profOk (1 : Nat) vs = true) : mjB (1 : Nat) vs = true := by
  unfold mjB
  rw [if_pos h0, Int.toNat_natCast]
  unfold mjO
  rw [List.find?_isSome]
  obtain ⟨r, hr⟩ := allO_ne (n := 1) (by omega) (by omega)
  refine ⟨r, hr, ?_⟩
  have hk := (rk_len ((allO_mem (by omega) (by omega)).1 hr)).1
  obtain ⟨x, e⟩ := List.length_eq_one_iff.1 (show r.length = 1 by omega)
  rw [e, mjOk_iff]
  simp

end Go.Proofs.YtilcdnkkabmbfaaGreat
