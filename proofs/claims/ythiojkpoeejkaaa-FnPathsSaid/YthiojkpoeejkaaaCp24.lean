/- Neighbours of a ranking change places: what that does to its costs (plain law). What FnPaths says of a profile (plain law). Small helpers of the laws: sum, count, has, same. Contracts of calls, told short. -/
import Derived.Test.YthiojkpoeejkaaaCp17
import Derived.Test.YthiojkpoeejkaaaCp21
import Derived.Test.YthiojkpoeejkaaaCp22
import Derived.Test.YthiojkpoeejkaaaCp19
import Derived.Test.YthiojkpoeejkaaaCp18
import Derived.Test.YthiojkpoeejkaaaCp23
import Derived.Test.YthiojkpoeejkaaaCp14
import Derived.Test.YthiojkpoeejkaaaCp2
import Derived.Test.YthiojkpoeejkaaaCp5
import Derived.Test.YthiojkpoeejkaaaCp7
namespace Go.Proofs.Ythiojkpoeejkaaa
open Go.RowKit

set_option maxRecDepth 100000 in
/-- Neighbours change places. -/
theorem bkI_nb (q : Int → Int → Bool) (a b : Int) (ys : List Int) : ∀ xs : List Int, bkI q (xs ++ a :: b :: ys) + (if q a b then 1 else 0) = bkI q (xs ++ b :: a :: ys) + (if q b a then 1 else 0)
  | [] => by
    rw [List.nil_append, List.nil_append, bkI, bkI, bkI, bkI, List.countP_cons, List.countP_cons]
    omega
  | x :: xs => by
    have ih := bkI_nb q a b ys xs
    rw [List.cons_append, List.cons_append, bkI, bkI]
    have hp : (xs ++ a :: b :: ys).Perm (xs ++ b :: a :: ys) := List.Perm.append_left xs (List.Perm.swap b a ys)
    rw [hp.countP_eq]
    omega
set_option maxRecDepth 100000 in
theorem placeI_cons (x a : Int) (xs : List Int) : placeI (x :: xs) a = if a = x then 0 else if placeI xs a < 0 then -1 else placeI xs a + 1 := by
  by_cases e : a = x
  · rw [if_pos e]
    unfold placeI
    exact findI_some (k := 0) (x := x) rfl (by simp) (by simp [e])
  · rw [if_neg e]
    unfold placeI findI
    rw [List.findIdx?_cons]
    have : (a == x) = false := by simpa using e
    simp only [this, Bool.false_eq_true, if_false]
    cases xs.findIdx? (fun y => a == y) with
    | none => rfl
    | some k =>
      have h1 : ¬ ((k : Nat) : Int) < 0 := by omega
      simp only [Option.map_some, h1, if_false]
      omega
set_option maxRecDepth 100000 in
/-- A count of pairs, from the places. -/
theorem bkI_pairs (q : Int → Int → Bool) : ∀ {xs : List Int}, xs.Nodup → bkI q xs = (xs.map (fun a => xs.countP (fun b => prefB xs a b && q b a))).sum
  | [], _ => rfl
  | x :: xs, hd => by
    rw [List.nodup_cons] at hd
    have ih := bkI_pairs q hd.2
    have hpl : ∀ a ∈ xs, 0 ≤ placeI xs a := fun a ha => by
      have := (place_in (xs := xs) (a := a))
      by_cases h : placeI xs a < 0
      · exact absurd ha (this.1 h)
      · omega
    have hne : ∀ a ∈ xs, a ≠ x := fun a ha e => hd.1 (e ▸ ha)
    rw [bkI, List.map_cons, List.sum_cons, ih]
    have h1 : (x :: xs).countP (fun b => prefB (x :: xs) x b && q b x) = xs.countP (fun y => q y x) := by
      rw [List.countP_cons, pref_self, Bool.false_and]
      simp only [Bool.false_eq_true, if_false, Nat.add_zero]
      refine List.countP_congr (fun b hb => ?_)
      have h2 := hpl b hb
      have : prefB (x :: xs) x b = true := by
        unfold prefB
        rw [placeI_cons, placeI_cons, if_pos rfl, if_neg (hne b hb), if_neg (by omega)]
        simp only [Bool.and_eq_true, decide_eq_true_eq]
        omega
      rw [this, Bool.true_and]
    have h2 : xs.map (fun a => (x :: xs).countP (fun b => prefB (x :: xs) a b && q b a)) = xs.map (fun a => xs.countP (fun b => prefB xs a b && q b a)) := by
      refine List.map_congr_left (fun a ha => ?_)
      have ha0 := hpl a ha
      have hn := hne a ha
      have e1 : prefB (x :: xs) a x = false := by
        unfold prefB
        rw [placeI_cons, placeI_cons, if_pos rfl, if_neg hn, if_neg (by omega)]
        have : ¬ placeI xs a + 1 < 0 := by omega
        simp [this]
      rw [List.countP_cons, e1, Bool.false_and]
      simp only [Bool.false_eq_true, if_false, Nat.add_zero]
      refine List.countP_congr (fun b hb => ?_)
      have hb0 := hpl b hb
      have e2 : prefB (x :: xs) a b = prefB xs a b := by
        unfold prefB
        rw [placeI_cons, placeI_cons, if_neg hn, if_neg (hne b hb), if_neg (by omega), if_neg (by omega)]
        have d1 : decide (0 ≤ placeI xs a + 1) = decide (0 ≤ placeI xs a) := decide_eq_decide.2 (by omega)
        have d2 : decide (0 ≤ placeI xs b + 1) = decide (0 ≤ placeI xs b) := decide_eq_decide.2 (by omega)
        have d3 : decide (placeI xs a + 1 < placeI xs b + 1) = decide (placeI xs a < placeI xs b) := decide_eq_decide.2 (by omega)
        rw [d1, d2, d3]
      rw [e2]
    rw [h1, h2]
set_option maxRecDepth 100000 in
theorem natSum_cast : ∀ xs : List Nat, ((xs.sum : Nat) : Int) = (xs.map (fun x : Nat => (x : Int))).sum
  | [] => rfl
  | x :: xs => by rw [List.sum_cons, List.map_cons, List.sum_cons, ← natSum_cast xs]; omega
set_option maxRecDepth 100000 in
theorem rk_sum {n : Nat} {r : List Int} (h : rkOk n r = true) (f : Int → Int) : (r.map f).sum = sgN (fun a => f (a : Int)) n := by
  rw [perm_sum ((rk_perm h).map f), upL_sum]
  exact sgN_congr (fun i _ => by simp)
set_option maxRecDepth 100000 in
/-- The pairs that two rankings order otherwise, one by one. -/
theorem bkI_sg {n : Nat} {r : List Int} (h : rkOk n r = true) (q : Int → Int → Bool) : (bkI q r : Int) = sgN (fun a => sgN (fun b => if prefB r a b && q b a then 1 else 0) n) n := by
  rw [bkI_pairs q (rk_nodup h), natSum_cast, List.map_map]
  have : ((fun x : Nat => (x : Int)) ∘ fun a => r.countP (fun b => prefB r a b && q b a)) = fun a : Int => ((cntN n (fun j : Nat => prefB r a (j : Int) && q (j : Int) a) : Nat) : Int) := by
    funext a
    show ((r.countP (fun b => prefB r a b && q b a) : Nat) : Int) = _
    rw [cntN_perm h (fun b => prefB r a b && q b a)]
  rw [this, rk_sum h (fun a : Int => ((cntN n (fun j : Nat => prefB r a (j : Int) && q (j : Int) a) : Nat) : Int))]
  exact sgN_congr (fun a _ => cntN_sg _ n)
set_option maxRecDepth 100000 in
theorem swap_sym {n : Nat} {xs r : List Int} (hx : rkOk n xs = true) (hr : rkOk n r = true) : (swapN xs r : Int) = swapN r xs := by
  unfold swapN
  rw [bkI_sg hx, bkI_sg hr, sgN_swap (fun a b => if prefB xs (a : Int) b && prefB r b a then (1 : Int) else 0)]
  refine sgN_congr (fun b _ => sgN_congr (fun a _ => ?_))
  rw [Bool.and_comm]
set_option maxRecDepth 100000 in
/-- The cost when neighbours change places. -/
theorem kem_nb {n : Nat} {a b : Int} {xs ys : List Int} (h1 : rkOk n (xs ++ a :: b :: ys) = true) (h2 : rkOk n (xs ++ b :: a :: ys) = true) : ∀ {vs : List Vt}, SmallV n vs → kemV vs (xs ++ a :: b :: ys) + pairV vs a b = kemV vs (xs ++ b :: a :: ys) + pairV vs b a
  | [], _ => by rfl
  | x :: vs, h => by
    have ih := kem_nb h1 h2 h.tail
    have e : ∀ r, kemV (x :: vs) r = x.2 * (swapN x.1 r : Int) + kemV vs r := fun r => by simp [kemV]
    rw [e, e]
    unfold pairV at ih ⊢
    rw [sumV_cons, sumV_cons, swap_sym h.head.1 h1, swap_sym h.head.1 h2]
    have h3 := bkI_nb (fun y z => prefB x.1 y z) a b ys xs
    unfold swapN
    generalize bkI (fun y z => prefB x.1 y z) (xs ++ a :: b :: ys) = A at h3 ⊢
    generalize bkI (fun y z => prefB x.1 y z) (xs ++ b :: a :: ys) = B at h3 ⊢
    have key : ∀ (p q : Bool), A + (if p then 1 else 0) = B + (if q then 1 else 0) → (A : Int) + (if p then 1 else 0) = (B : Int) + (if q then 1 else 0) := by
      intro p q h
      cases p <;> cases q <;> simp at h ⊢ <;> omega
    have h4 := key _ _ h3
    generalize (A : Int) = A' at h4 ⊢
    generalize (B : Int) = B' at h4 ⊢
    have h5 := congrArg (fun z => x.2 * z) h4
    simp only [Int.mul_add] at h5
    have key2 : ∀ (p q : Bool) (u v S T : Int), S + u = T + v → x.2 * A' + x.2 * (if p then 1 else 0) = x.2 * B' + x.2 * (if q then 1 else 0) → x.2 * A' + S + ((if p then x.2 else 0) + u) = x.2 * B' + T + ((if q then x.2 else 0) + v) := by
      intro p q u v S T h1 h2
      cases p <;> cases q <;> simp at h2 ⊢ <;> omega
    exact key2 _ _ _ _ _ _ ih h5
set_option maxRecDepth 100000 in
/-- A ranking with the least cost. -/
theorem lstT_min {cost : List Int → Int} {xss : List (List Int)} : ∀ k, k ≤ xss.length → (∀ j r, j < k → xss[j]? = some r → (lstT cost xss k).2.1 ≤ cost r) ∧ (1 ≤ k → 1 ≤ (lstT cost xss k).2.2)
  | 0, _ => ⟨fun j r hj => by omega, fun h => by omega⟩
  | k + 1, hk => by
    obtain ⟨r, hr⟩ := at_of_lt (xs := xss) (k := k) (by omega)
    have ih := lstT_min (cost := cost) (xss := xss) k (by omega)
    have hin : ∀ {j : Nat} {r' : List Int}, j < k + 1 → xss[j]? = some r' → (j < k ∨ r' = r) := fun {j r'} hj h => by
      by_cases e : j = k
      · subst e; rw [hr] at h; injection h with h; exact .inr h.symm
      · exact .inl (by omega)
    by_cases h0 : k = 0 ∨ cost r < (lstT cost xss k).2.1
    · rw [lstT_new hr h0]
      refine ⟨fun j r' hj h => ?_, fun _ => Nat.le_refl _⟩
      rcases hin hj h with h1 | h1
      · have := ih.1 j r' h1 h
        show cost r ≤ cost r'
        rcases h0 with h0 | h0 <;> omega
      · rw [h1]; exact Int.le_refl _
    · by_cases he : cost r = (lstT cost xss k).2.1
      · rw [lstT_tie hr (by omega) he]
        refine ⟨fun j r' hj h => ?_, fun _ => by show 1 ≤ _ + 1; omega⟩
        rcases hin hj h with h1 | h1
        · exact ih.1 j r' h1 h
        · rw [h1]; show (lstT cost xss k).2.1 ≤ cost r; omega
      · rw [lstT_old hr (by omega) (by omega)]
        refine ⟨fun j r' hj h => ?_, fun _ => ih.2 (by omega)⟩
        rcases hin hj h with h1 | h1
        · exact ih.1 j r' h1 h
        · rw [h1]; omega
set_option maxRecDepth 100000 in
theorem lst_min {cost : List Int → Int} {n : Nat} (n1 : 1 ≤ n) (n5 : n ≤ 5) : rkOk n (lstR cost n).1 = true ∧ (lstR cost n).2.1 = cost (lstR cost n).1 ∧ (∀ r, rkOk n r = true → cost (lstR cost n).1 ≤ cost r) ∧ 1 ≤ (lstR cost n).2.2 := by
  have hm := lstR_mem (cost := cost) n1 n5
  have h2 := lstT_min (cost := cost) (xss := allO n) _ (Nat.le_refl _)
  refine ⟨(allO_mem n1 n5).1 hm.1, hm.2, fun r hr => ?_, h2.2 (allO_pos n1 n5)⟩
  obtain ⟨j, hj⟩ := List.mem_iff_getElem?.1 ((allO_mem n1 n5).2 hr)
  rw [← hm.2]
  exact h2.1 j r (lt_of_at hj) hj
set_option maxRecDepth 100000 in
/-- Either all stand in order, or two neighbours do not. -/
theorem nb_or {R : Int → Int → Prop} (ht : ∀ a b c, R a b → R b c → R a c) : ∀ r : List Int, r.Pairwise R ∨ ∃ xs a b ys, r = xs ++ a :: b :: ys ∧ ¬ R a b
  | [] => .inl List.Pairwise.nil
  | [x] => .inl (by simp)
  | x :: y :: ys => by
    rcases nb_or ht (y :: ys) with h | ⟨xs, a, b, zs, e, hn⟩
    · by_cases hxy : R x y
      · refine .inl (List.pairwise_cons.2 ⟨fun z hz => ?_, h⟩)
        rcases List.mem_cons.1 hz with rfl | hz
        · exact hxy
        · exact ht _ _ _ hxy ((List.pairwise_cons.1 h).1 z hz)
      · exact .inr ⟨[], x, y, ys, rfl, hxy⟩
    · exact .inr ⟨x :: xs, a, b, zs, by rw [e]; rfl, hn⟩
set_option maxRecDepth 100000 in
theorem rk_nb {n : Nat} {xs ys : List Int} {a b : Int} (h : rkOk n (xs ++ a :: b :: ys) = true) : rkOk n (xs ++ b :: a :: ys) = true := rk_perm_ok (List.Perm.append_left xs (List.Perm.swap a b ys)) h

set_option maxRecDepth 100000 in
/-- Paths that lead out of the rest have no strength. -/
theorem fwK_out {n : Nat} {M : Nat → Nat → Int} {T : Nat → Bool} (hM : FwOk M) (h : ∀ x y, x < n → y < n → T x = false → T y = true → M x y = 0) : ∀ k, k ≤ n → FwOk (fwK n M k) ∧ ∀ x y, x < n → y < n → T x = false → T y = true → fwK n M k x y = 0
  | 0, _ => ⟨hM, h⟩
  | k + 1, hk => by
    have ih := fwK_out hM h k (by omega)
    have hat := fun x y => fwA_at (n := n) ih.1 k n x y
    refine ⟨⟨fun x => ?_, fun x y => ?_⟩, fun x y hx hy tx ty => ?_⟩
    · rw [fwK, hat, if_neg (by omega)]; exact ih.1.diag x
    · rw [fwK, hat]
      have := ih.1.pos x y
      split <;> omega
    · rw [fwK, hat]
      have h1 := ih.2 x y hx hy tx ty
      have p1 := ih.1.pos x k
      have p2 := ih.1.pos k y
      cases tk : T k
      · have := ih.2 k y (by omega) hy tk ty
        split <;> omega
      · have := ih.2 x k hx (by omega) tx tk
        split <;> omega
set_option maxRecDepth 100000 in
theorem fwK_ge {n : Nat} {M : Nat → Nat → Int} (hM : FwOk M) : ∀ k, k ≤ n → FwOk (fwK n M k) ∧ ∀ x y, M x y ≤ fwK n M k x y
  | 0, _ => ⟨hM, fun x y => Int.le_refl _⟩
  | k + 1, hk => by
    have ih := fwK_ge (n := n) hM k (by omega)
    have hat := fun x y => fwA_at (n := n) ih.1 k n x y
    refine ⟨⟨fun x => ?_, fun x y => ?_⟩, fun x y => ?_⟩
    · rw [fwK, hat, if_neg (by omega)]; exact ih.1.diag x
    · rw [fwK, hat]
      have := ih.1.pos x y
      split <;> omega
    · rw [fwK, hat]
      have := ih.2 x y
      split <;> omega
set_option maxRecDepth 100000 in
theorem sch_top {n : Nat} {vs : List Vt} (h0 : profOk n vs = true) {x : Int} (hx : x ∈ schO n vs) : x ∈ topO n vs := by
  have hS := prof_small h0
  have hsz := prof_size h0
  obtain ⟨s, h⟩ := top_f h0
  obtain ⟨a, ha, rfl, hb⟩ := (sch_mem h0).1 hx
  rw [h.memN ha]
  cases hba : bitAt (s : Int) a
  · exfalso
    obtain ⟨b, hbn, hbb⟩ := h.some (by omega)
    have h1 := h.dom b a hbn ha hbb hba
    have h2 : 0 < fw0 vs b a := by
      unfold fw0
      rw [if_pos h1]
      have h3 := (sumV_bd' (p := fun r => prefB r (a : Int) (b : Int)) hS).1
      unfold bt beatsV at h1
      rw [decide_eq_true_eq] at h1
      unfold pairV at h1 ⊢
      omega
    have h3 := (fwK_ge (n := n) (fw0_ok hS) n (Nat.le_refl _)).2 b a
    have h4 := (fwK_out (n := n) (T := fun i => bitAt (s : Int) i) (fw0_ok hS) (fun x y hx hy tx ty => by
      unfold fw0
      rw [if_neg]
      rw [bt_anti vs _ _ (h.dom y x hy hx ty tx)]
      decide) n (Nat.le_refl _)).2 a b ha hbn hba hbb
    have h5 := hb b hbn
    unfold pthV at h5
    omega
  · rfl

set_option maxRecDepth 100000 in
theorem prRow_has {vs : List Vt} {a b : Nat} (h : beatsV vs a b = true) : ∀ m, b < m → [(a : Int), (b : Int)] ∈ prRow vs a m
  | 0, hb => by omega
  | m + 1, hb => by
    rw [prRow, List.mem_append]
    by_cases e : b = m
    · subst e
      rw [if_pos h]
      exact .inr (by simp)
    · exact .inl (prRow_has h m (by omega))
set_option maxRecDepth 100000 in
theorem prAll_has {n : Nat} {vs : List Vt} {a b : Nat} (hb : b < n) (h : beatsV vs a b = true) : ∀ m, a < m → [(a : Int), (b : Int)] ∈ prAll n vs m
  | 0, ha => by omega
  | m + 1, ha => by
    rw [prAll, List.mem_append]
    by_cases e : a = m
    · subst e; exact .inr (prRow_has h n hb)
    · exact .inl (prAll_has hb h m (by omega))
set_option maxRecDepth 100000 in
theorem lock_mono (xss : List (List Int)) {k : Nat} {y : List Int} (hy : y ∈ lockL (xss.take k)) : ∀ m, k ≤ m → m ≤ xss.length → y ∈ lockL (xss.take m)
  | 0, hk, _ => by
    have : k = 0 := by omega
    subst this; exact hy
  | m + 1, hk, hm => by
    by_cases e : k = m + 1
    · subst e; exact hy
    · have ih := lock_mono xss hy m (by omega) (by omega)
      obtain ⟨x, hx⟩ := at_of_lt (xs := xss) (k := m) (by omega)
      rw [lockL_at hx]
      unfold lockS
      split
      · exact ih
      · exact List.mem_append_left _ ih
set_option maxRecDepth 100000 in
theorem lock_or {xss : List (List Int)} {x : List Int} (hx : x ∈ xss) : x ∈ lockL xss ∨ ∃ kept, (∀ y ∈ kept, y ∈ xss) ∧ ReachL kept (p1 x) (p0 x) := by
  obtain ⟨k, hk⟩ := List.mem_iff_getElem?.1 hx
  have hl := lt_of_at hk
  by_cases h : wayB (lockL (xss.take k)) (p1 x) (p0 x) = true
  · exact .inr ⟨_, lockL_mem xss k (by omega), wayB_iff.1 h⟩
  · refine .inl ?_
    rw [lockL_all]
    refine lock_mono xss (k := k + 1) ?_ _ (by omega) (Nat.le_refl _)
    rw [lockL_at hk]
    unfold lockS
    rw [if_neg h]
    simp
set_option maxRecDepth 100000 in
theorem lok_eq {n : Nat} {vs : List Vt} (h0 : profOk n vs = true) : lokO n vs = lockL (srtP n vs) := by unfold lokO; rw [if_pos h0, Int.toNat_natCast]
set_option maxRecDepth 100000 in
theorem lok_ranked {n : Nat} {vs : List Vt} (h0 : profOk n vs = true) : Ranked (lokO n vs) := by
  rw [lok_eq h0, lockL_all]
  exact lockL_ranked _ _ (Nat.le_refl _)
set_option maxRecDepth 100000 in
theorem lok_mem {n : Nat} {vs : List Vt} (h0 : profOk n vs = true) {x : List Int} (hx : x ∈ lokO n vs) : ∃ a b : Nat, a < n ∧ b < n ∧ x = [(a : Int), (b : Int)] ∧ beatsV vs a b = true := by
  rw [lok_eq h0] at hx
  obtain ⟨⟨a, b, ha, hb, rfl⟩, h⟩ := srtP_mem (lok_sub _ x hx)
  exact ⟨a, b, ha, hb, rfl, h⟩
set_option maxRecDepth 100000 in
/-- From the top cycle to the rest all pairs are kept. -/
theorem lok_top {n : Nat} {vs : List Vt} {s : Nat} (h0 : profOk n vs = true) (h : TopF n vs s) {b a : Nat} (hb : b < n) (ha : a < n) (bb : bitAt (s : Int) b = true) (ba : bitAt (s : Int) a = false) : [(b : Int), (a : Int)] ∈ lokO n vs := by
  have h1 := h.dom b a hb ha bb ba
  have hm : [(b : Int), (a : Int)] ∈ srtP n vs := sortD_mem.2 (prAll_has ha h1 n hb)
  rw [lok_eq h0]
  rcases lock_or hm with h2 | ⟨kept, hk, hr⟩
  · exact h2
  · exfalso
    have h3 := reach_in (seen := upL n (fun i => !bitAt (s : Int) i)) (fun x hx hp => by
      obtain ⟨⟨i, j, hi, hj, rfl⟩, hbt⟩ := srtP_mem (hk x hx)
      obtain ⟨i', _, hi', e⟩ := upL_mem.1 hp
      have ei : i' = i := by
        have : (i : Int) = i' := e
        omega
      subst ei
      refine upL_mem.2 ⟨j, hj, ?_, rfl⟩
      cases hbj : bitAt (s : Int) j
      · rfl
      · have h4 := bt_anti vs _ _ (h.dom j i' hj hi hbj (by simpa using hi'))
        have h5 : bt vs i' j = true := hbt
        rw [h4] at h5
        cases h5) hr (upL_mem.2 ⟨a, ha, by rw [ba]; rfl, rfl⟩)
    obtain ⟨b', _, hb', e⟩ := upL_mem.1 h3
    have eb : b' = b := by
      have : (b : Int) = b' := e
      omega
    subst eb
    rw [bb] at hb'
    cases hb'

set_option maxRecDepth 100000 in
theorem prL_take {kept : List (List Int)} {n : Nat} : ∀ m k, k ≤ m → (prL kept n m).take k = prL kept n k
  | 0, k, hk => by
    have : k = 0 := by omega
    subst this; rfl
  | m + 1, k, hk => by
    by_cases e : k = m + 1
    · subst e
      exact List.take_of_length_le (by rw [prL_len]; exact Nat.le_refl _)
    · rw [prL, List.take_append_of_le_length (by rw [prL_len]; omega), prL_take m k (by omega)]
set_option maxRecDepth 100000 in
theorem prL_at {kept : List (List Int)} {n m k : Nat} (hk : k < m) : (prL kept n m)[k]? = some (nextV kept n (prL kept n k)) := by
  have h1 := prL_take (kept := kept) (n := n) m (k + 1) (by omega)
  rw [← List.getElem?_take_of_lt (show k < k + 1 by omega), h1, prL, List.getElem?_append_right (by rw [prL_len]; exact Nat.le_refl _), prL_len]
  simp
set_option maxRecDepth 100000 in
theorem prk_next {kept : List (List Int)} {n k : Nat} (hr : Ranked kept) (hk : k < n) : ∃ i : Nat, i < n ∧ (i : Int) ∈ leftL n (prL kept n k) ∧ nextV kept n (prL kept n k) = i ∧ freeB kept (leftL n (prL kept n k)) i = true := by
  have hl := leftL_prL (n := n) hr k (by omega)
  have hne : leftL n (prL kept n k) ≠ [] := fun e => by rw [e] at hl; simp at hl; omega
  obtain ⟨i, hi, hq, _, hv⟩ := next_some hr hne
  unfold nextQ at hq
  rw [Bool.and_eq_true] at hq
  exact ⟨i, hi, (notIn_iff hi).1 hq.1, hv, hq.2⟩
set_option maxRecDepth 100000 in
theorem prL_nodup {kept : List (List Int)} {n : Nat} (hr : Ranked kept) : ∀ k, k ≤ n → (prL kept n k).Nodup
  | 0, _ => List.nodup_nil
  | k + 1, hk => by
    obtain ⟨i, hi, hm, hv, _⟩ := prk_next (n := n) hr (k := k) (by omega)
    obtain ⟨j, _, hn, e⟩ := leftL_mem.1 hm
    rw [prL, hv, List.nodup_append]
    refine ⟨prL_nodup hr k (by omega), by simp, fun x hx y hy => ?_⟩
    simp at hy
    rw [hy, e]
    rintro rfl
    exact hn hx
set_option maxRecDepth 100000 in
theorem prL_rk {kept : List (List Int)} {n : Nat} (n1 : 1 ≤ n) (n5 : n ≤ 5) (hr : Ranked kept) : rkOk n (prL kept n n) = true := by
  simp only [rkOk, Bool.and_eq_true, decide_eq_true_eq, List.all_eq_true]
  refine ⟨inR_iff.2 (by omega), by rw [prL_len], fun x hx => ?_, prL_nodup hr n (Nat.le_refl _)⟩
  obtain ⟨k, hk⟩ := List.mem_iff_getElem?.1 hx
  have hlt := lt_of_at hk
  rw [prL_len] at hlt
  rw [prL_at hlt] at hk
  injection hk with hk
  obtain ⟨i, hi, _, hv, _⟩ := prk_next (n := n) hr hlt
  rw [← hk, hv]
  exact inR_iff.2 (by omega)
set_option maxRecDepth 100000 in
theorem pref_of {n : Nat} {r : List Int} (h : rkOk n r = true) {a b i j : Nat} (ha : a < n) (hb : b < n) (hi : r[i]? = some (a : Int)) (hj : r[j]? = some (b : Int)) : prefB r a b = decide (i < j) := by
  obtain ⟨p, _, ep, _, hu⟩ := place_at h ha
  obtain ⟨q, _, eq, _, hv⟩ := place_at h hb
  have h1 := hu i hi
  have h2 := hv j hj
  unfold prefB
  rw [ep, eq, h1, h2]
  have d1 : decide ((0 : Int) ≤ (p : Int)) = true := decide_eq_true (by omega)
  have d2 : decide ((0 : Int) ≤ (q : Int)) = true := decide_eq_true (by omega)
  rw [d1, d2, Bool.true_and, Bool.true_and, decide_eq_decide]
  omega
set_option maxRecDepth 100000 in
/-- The order keeps the kept pairs. -/
theorem prk_keeps {kept : List (List Int)} {n : Nat} (n1 : 1 ≤ n) (n5 : n ≤ 5) (hr : Ranked kept) {a b : Nat} (ha : a < n) (hb : b < n) (hx : [(a : Int), (b : Int)] ∈ kept) : prefB (prL kept n n) a b = true := by
  have hk := prL_rk n1 n5 hr
  obtain ⟨j, hj, _, hbj, _⟩ := place_at hk hb
  have hat := prL_at (kept := kept) (n := n) hj
  obtain ⟨i, hi, hm, hv, hf⟩ := prk_next (n := n) hr hj
  rw [hbj, hv] at hat
  injection hat with hat
  have hib : i = b := by omega
  subst hib
  have hal : (a : Int) ∉ leftL n (prL kept n j) := fun hin => by
    unfold freeB at hf
    rw [Bool.not_eq_true', List.any_eq_false] at hf
    apply hf _ hx
    show ((i : Int) == (i : Int) && hasI (leftL n (prL kept n j)) (a : Int)) = true
    rw [hasI_iff.2 hin]
    simp
  have hap : (a : Int) ∈ prL kept n j := by
    by_cases e : (a : Int) ∈ prL kept n j
    · exact e
    · exact absurd (leftL_mem.2 ⟨a, ha, e, rfl⟩) hal
  rw [← prL_take (kept := kept) (n := n) n j (by omega)] at hap
  obtain ⟨q, hq⟩ := List.mem_iff_getElem?.1 hap
  have hql : q < j := by have := lt_of_at hq; rw [List.length_take] at this; omega
  rw [List.getElem?_take_of_lt hql] at hq
  rw [pref_of hk ha hb hq hbj]
  exact decide_eq_true hql
set_option maxRecDepth 100000 in
theorem prk_eq {n : Nat} {vs : List Vt} (h0 : profOk n vs = true) : prkO n vs = prL (lokO n vs) n n := by unfold prkO; rw [if_pos h0, Int.toNat_natCast]
set_option maxRecDepth 100000 in
theorem prk_first {n : Nat} {vs : List Vt} (h0 : profOk n vs = true) : ∃ x, (prkO n vs)[0]? = some x ∧ x ∈ topO n vs := by
  have hsz := prof_size h0
  obtain ⟨s, h⟩ := top_f h0
  have hr := lok_ranked h0
  obtain ⟨i, hi, _, hv, hf⟩ := prk_next (n := n) hr (show 0 < n by omega)
  rw [prk_eq h0]
  refine ⟨i, by rw [prL_at (show 0 < n by omega), hv], ?_⟩
  rw [h.memN hi]
  cases hbi : bitAt (s : Int) i
  · exfalso
    obtain ⟨b, hb, hbb⟩ := h.some (by omega)
    have h1 := lok_top h0 h hb hi hbb hbi
    unfold freeB at hf
    rw [Bool.not_eq_true', List.any_eq_false] at hf
    apply hf _ h1
    show ((i : Int) == (i : Int) && hasI (leftL n (prL (lokO n vs) n 0)) (b : Int)) = true
    rw [hasI_iff.2 (leftL_mem.2 ⟨b, hb, by simp [prL], rfl⟩)]
    simp
  · rfl

set_option maxRecDepth 100000 in
/-- A list that does not begin in a set and has a member of it, comes to it somewhere. -/
theorem first_in (P : Int → Bool) : ∀ {x : Int} {r : List Int}, P x = false → (∃ y ∈ r, P y = true) → ∃ xs a b ys, x :: r = xs ++ a :: b :: ys ∧ P a = false ∧ P b = true
  | x, [], _, h => by obtain ⟨y, hy, _⟩ := h; simp at hy
  | x, z :: r, hx, h => by
    by_cases hz : P z = true
    · exact ⟨[], x, z, r, rfl, hx, hz⟩
    · obtain ⟨y, hy, hp⟩ := h
      rcases List.mem_cons.1 hy with rfl | hy
      · exact absurd hp hz
      · obtain ⟨xs, a, b, ys, e, h1, h2⟩ := first_in P (x := z) (r := r) (by simpa using hz) ⟨y, hy, hp⟩
        exact ⟨x :: xs, a, b, ys, by rw [e]; rfl, h1, h2⟩
set_option maxRecDepth 100000 in
theorem kem_eq {n : Nat} {vs : List Vt} (h0 : profOk n vs = true) : kemO n vs = (lstR (kemV vs) n).1 := by unfold kemO lstO; rw [if_pos h0, Int.toNat_natCast]
set_option maxRecDepth 100000 in
theorem kem_min {n : Nat} {vs : List Vt} (h0 : profOk n vs = true) : rkOk n (kemO n vs) = true ∧ ∀ r, rkOk n r = true → kemV vs (kemO n vs) ≤ kemV vs r := by
  have hsz := prof_size h0
  have h := lst_min (cost := kemV vs) (n := n) (by omega) (by omega)
  rw [kem_eq h0]
  exact ⟨h.1, h.2.2.1⟩
set_option maxRecDepth 100000 in
/-- Of two neighbours in the nearest ranking the later one does not beat the earlier one. -/
theorem kem_nbs {n : Nat} {vs : List Vt} (h0 : profOk n vs = true) {xs ys : List Int} {a b : Int} (e : kemO n vs = xs ++ a :: b :: ys) : beatsV vs b a = false := by
  obtain ⟨hk, hm⟩ := kem_min h0
  have hS := prof_small h0
  rw [e] at hk hm
  have h1 := kem_nb hk (rk_nb hk) hS
  have h2 := hm _ (rk_nb hk)
  unfold beatsV
  rw [decide_eq_false_iff_not]
  omega
set_option maxRecDepth 100000 in
theorem kem_first {n : Nat} {vs : List Vt} (h0 : profOk n vs = true) : ∃ x, (kemO n vs)[0]? = some x ∧ x ∈ topO n vs := by
  have hsz := prof_size h0
  obtain ⟨s, h⟩ := top_f h0
  obtain ⟨hk, _⟩ := kem_min h0
  have hl := (rk_len hk).1
  obtain ⟨x, hx⟩ := at_of_lt (xs := kemO n vs) (k := 0) (by omega)
  refine ⟨x, hx, ?_⟩
  have hm := rk_mem hk (List.mem_of_getElem? hx)
  obtain ⟨i, rfl⟩ : ∃ i : Nat, x = i := ⟨x.toNat, by omega⟩
  have hi : i < n := by omega
  rw [h.memN hi]
  cases hbi : bitAt (s : Int) i
  · exfalso
    obtain ⟨b, hb, hbb⟩ := h.some (by omega)
    have hbm := rk_all hk hb
    cases hr : kemO n vs with
    | nil => rw [hr] at hx; simp at hx
    | cons z r =>
      rw [hr] at hx hbm
      have hz : z = i := by simpa using hx
      subst hz
      have hbr : (b : Int) ∈ r := by
        rcases List.mem_cons.1 hbm with e | hm
        · have : b = i := by omega
          rw [this, hbi] at hbb
          cases hbb
        · exact hm
      obtain ⟨xs, p, q, ys, e, hp, hq⟩ := first_in (fun y => bitAt (s : Int) y.toNat) (x := (i : Int)) (r := r) (by simpa using hbi) ⟨b, hbr, by simpa using hbb⟩
      have e2 : kemO n vs = xs ++ p :: q :: ys := by rw [hr, e]
      have h1 := kem_nbs h0 e2
      have mp := rk_mem hk (show p ∈ kemO n vs by rw [e2]; simp)
      have mq := rk_mem hk (show q ∈ kemO n vs by rw [e2]; simp)
      have h2 := h.dom q.toNat p.toNat (by omega) (by omega) hq hp
      unfold bt at h2
      rw [show ((q.toNat : Nat) : Int) = q by omega, show ((p.toNat : Nat) : Int) = p by omega, h1] at h2
      cases h2
  · rfl

set_option maxRecDepth 100000 in
theorem beats_in {n : Nat} {vs : List Vt} (hS : SmallV n vs) {x y : Int} (h : beatsV vs x y = true) : (0 ≤ x ∧ x < n) ∧ (0 ≤ y ∧ y < n) := by
  unfold beatsV at h
  rw [decide_eq_true_eq] at h
  have h1 := (sumV_bd' (p := fun r => prefB r y x) hS).1
  have h2 : ∃ v ∈ vs, prefB v.1 x y = true := by
    by_cases hc : ∃ v ∈ vs, prefB v.1 x y = true
    · exact hc
    · exfalso
      have : pairV vs x y = 0 := by
        unfold pairV
        rw [sumV_congr (q := fun _ => false) (fun v hv => by
          cases hp : prefB v.1 x y
          · rfl
          · exact absurd ⟨v, hv, hp⟩ hc), sumV_none]
      unfold pairV at h this
      omega
  obtain ⟨v, hv, hp⟩ := h2
  unfold prefB at hp
  simp only [Bool.and_eq_true, decide_eq_true_eq] at hp
  have hk := (hS.2 v hv).1
  have m1 : x ∈ v.1 := by
    by_cases e : x ∈ v.1
    · exact e
    · have := place_in.2 e
      omega
  have m2 : y ∈ v.1 := by
    by_cases e : y ∈ v.1
    · exact e
    · have := place_in.2 e
      omega
  have r1 := rk_mem hk m1
  have r2 := rk_mem hk m2
  omega
set_option maxRecDepth 100000 in
theorem mj_trans {n : Nat} {vs : List Vt} {r : List Int} (hS : SmallV n vs) (hk : rkOk n r = true) (hp : r.Pairwise (fun x y => beatsV vs x y = true)) {x y z : Int} (h1 : beatsV vs x y = true) (h2 : beatsV vs y z = true) : beatsV vs x z = true := by
  have i1 := beats_in hS h1
  have i2 := beats_in hS h2
  obtain ⟨a, rfl⟩ : ∃ a : Nat, x = a := ⟨x.toNat, by omega⟩
  obtain ⟨b, rfl⟩ : ∃ b : Nat, y = b := ⟨y.toNat, by omega⟩
  obtain ⟨c, rfl⟩ : ∃ c : Nat, z = c := ⟨z.toNat, by omega⟩
  have h3 := (pw_place hk hp (a := a) (b := b) (by omega) (by omega)).1 h1
  have h4 := (pw_place hk hp (a := b) (b := c) (by omega) (by omega)).1 h2
  exact (pw_place hk hp (a := a) (b := c) (by omega) (by omega)).2 (by omega)
set_option maxRecDepth 100000 in
theorem mj_tot {n : Nat} {vs : List Vt} {r : List Int} (hk : rkOk n r = true) (hp : r.Pairwise (fun x y => beatsV vs x y = true)) {x y : Int} (hx : 0 ≤ x ∧ x < n) (hy : 0 ≤ y ∧ y < n) (hne : x ≠ y) (h : beatsV vs y x = false) : beatsV vs x y = true := by
  obtain ⟨a, rfl⟩ : ∃ a : Nat, x = a := ⟨x.toNat, by omega⟩
  obtain ⟨b, rfl⟩ : ∃ b : Nat, y = b := ⟨y.toNat, by omega⟩
  obtain ⟨i, _, ei, hi, _⟩ := place_at hk (a := a) (by omega)
  obtain ⟨j, _, ej, hj, _⟩ := place_at hk (a := b) (by omega)
  have hij : i ≠ j := fun e => by
    rw [e, hj] at hi
    injection hi with hi
    exact hne hi.symm
  by_cases hlt : placeI r a < placeI r b
  · exact (pw_place hk hp (a := a) (b := b) (by omega) (by omega)).2 hlt
  · have h2 : bt vs b a = true := (pw_place hk hp (a := b) (b := a) (by omega) (by omega)).2 (by omega)
    unfold bt at h2
    rw [h] at h2
    cases h2
set_option maxRecDepth 100000 in
/-- A ranking in which no neighbours are beaten backwards is the one of the majority, where there is one. -/
theorem mj_same {n : Nat} {vs : List Vt} {r q : List Int} (hk : rkOk n r = true) (hp : r.Pairwise (fun x y => beatsV vs x y = true)) (hq : rkOk n q = true) (h : q.Pairwise (fun x y => beatsV vs x y = true)) : r = q := by
  rw [← mjS_eq hk (mjOk_iff.2 hp), ← mjS_eq hq (mjOk_iff.2 h)]
set_option maxRecDepth 100000 in
theorem mj_nbs {n : Nat} {vs : List Vt} {r q : List Int} (hS : SmallV n vs) (hk : rkOk n r = true) (hp : r.Pairwise (fun x y => beatsV vs x y = true)) (hq : rkOk n q = true) (h : ∀ xs a b ys, q = xs ++ a :: b :: ys → beatsV vs b a = false) : r = q := by
  refine mj_same hk hp hq ?_
  rcases nb_or (R := fun x y => beatsV vs x y = true) (fun a b c h1 h2 => mj_trans hS hk hp h1 h2) q with h1 | ⟨xs, a, b, ys, e, hn⟩
  · exact h1
  · exfalso
    apply hn
    have ma := rk_mem hq (show a ∈ q by rw [e]; simp)
    have mb := rk_mem hq (show b ∈ q by rw [e]; simp)
    have hne : a ≠ b := fun e2 => by
      have hd := rk_nodup hq
      rw [e, e2, List.nodup_append] at hd
      have := hd.2.1
      simp at this
    exact mj_tot hk hp (by omega) (by omega) hne (h xs a b ys e)
set_option maxRecDepth 100000 in
theorem mj_kem {n : Nat} {vs : List Vt} (h0 : profOk n vs = true) (h : mjB n vs = true) : mjL n vs = kemO n vs := by
  obtain ⟨hk, hp⟩ := mj_pair h0 h
  exact mj_nbs (prof_small h0) hk hp (kem_min h0).1 (fun xs a b ys e => kem_nbs h0 e)
set_option maxRecDepth 100000 in
theorem sla_min {n : Nat} {vs : List Vt} (h0 : profOk n vs = true) : rkOk n (slaO n vs) = true ∧ slaW n vs = slaN vs (slaO n vs) ∧ ∀ r, rkOk n r = true → slaN vs (slaO n vs) ≤ slaN vs r := by
  have hsz := prof_size h0
  have h := lst_min (cost := slaN vs) (n := n) (by omega) (by omega)
  have e : slaO n vs = (lstR (slaN vs) n).1 := by unfold slaO lstO; rw [if_pos h0, Int.toNat_natCast]
  have e2 : slaW n vs = (lstR (slaN vs) n).2.1 := by unfold slaW lstO; rw [if_pos h0, if_pos h0, Int.toNat_natCast]
  rw [e, e2]
  exact ⟨h.1, h.2.1, h.2.2.1⟩
set_option maxRecDepth 100000 in
theorem sla_pos {n : Nat} {vs : List Vt} (h0 : profOk n vs = true) : 0 ≤ slaW n vs := by
  rw [(sla_min h0).2.1]
  unfold slaN
  omega
set_option maxRecDepth 100000 in
theorem mj_sla {n : Nat} {vs : List Vt} (h0 : profOk n vs = true) (h : mjB n vs = true) : mjL n vs = slaO n vs ∧ slaW n vs = 0 := by
  obtain ⟨hk, hp⟩ := mj_pair h0 h
  obtain ⟨h1, h2, h3⟩ := sla_min h0
  have h4 := h3 _ hk
  have h5 : slaN vs (mjL n vs) = 0 := by
    unfold slaN
    rw [(bkI_zero (q := fun y x => beatsV vs y x)).2 (hp.imp (fun {x y} hb => beatsV_anti hb))]; rfl
  have h6 : slaN vs (slaO n vs) = 0 := by
    have : 0 ≤ slaN vs (slaO n vs) := by unfold slaN; omega
    omega
  refine ⟨?_, by rw [h2, h6]⟩
  refine mj_nbs (prof_small h0) hk hp h1 (fun xs a b ys e => ?_)
  have h7 : bkI (fun y x => beatsV vs y x) (slaO n vs) = 0 := by unfold slaN at h6; omega
  have h8 := bkI_zero.1 h7
  rw [e, List.pairwise_append] at h8
  exact (List.pairwise_cons.1 h8.2.1).1 b (by simp)
set_option maxRecDepth 100000 in
theorem mj_prk {n : Nat} {vs : List Vt} (h0 : profOk n vs = true) (h : mjB n vs = true) : mjL n vs = prkO n vs := by
  obtain ⟨hk, hp⟩ := mj_pair h0 h
  have hS := prof_small h0
  have hsz := prof_size h0
  have hr := lok_ranked h0
  rw [prk_eq h0]
  refine mj_nbs hS hk hp (prL_rk (by omega) (by omega) hr) (fun xs a b ys e => ?_)
  have hq := prL_rk (n := n) (by omega) (by omega) hr
  cases hb : beatsV vs b a
  · rfl
  · exfalso
    have hi := beats_in hS hb
    obtain ⟨i, rfl⟩ : ∃ i : Nat, b = i := ⟨b.toNat, by omega⟩
    obtain ⟨j, rfl⟩ : ∃ j : Nat, a = j := ⟨a.toNat, by omega⟩
    have hm : [(i : Int), (j : Int)] ∈ lokO n vs := by
      rw [lok_eq h0]
      rcases lock_or (x := [(i : Int), (j : Int)]) (sortD_mem.2 (prAll_has (n := n) (a := i) (b := j) (by omega) hb n (by omega))) with h1 | ⟨kept, hkp, hrc⟩
      · exact h1
      · exfalso
        have h2 : ∀ {x y : Int}, ReachL kept x y → x = y ∨ beatsV vs x y = true := by
          intro x y hxy
          induction hxy with
          | refl a => exact .inl rfl
          | step z hz _ ih =>
            have h3 := (srtP_mem (hkp z hz)).2
            rcases ih with ih | ih
            · rw [ih] at h3; exact .inr h3
            · exact .inr (mj_trans hS hk hp h3 ih)
        rcases h2 hrc with h3 | h3
        · have h4 : (j : Int) = i := h3
          rw [h4, beatsV_self] at hb
          cases hb
        · have h4 : beatsV vs j i = true := h3
          rw [beatsV_anti hb] at h4
          cases h4
    have h5 := prk_keeps (n := n) (by omega) (by omega) hr (a := i) (b := j) (by omega) (by omega) hm
    have hat1 : (prL (lokO n vs) n n)[xs.length]? = some (j : Int) := by rw [e]; simp
    have hat2 : (prL (lokO n vs) n n)[xs.length + 1]? = some (i : Int) := by rw [e]; simp
    rw [pref_of hq (a := i) (b := j) (by omega) (by omega) hat2 hat1, decide_eq_true_eq] at h5
    omega
set_option maxRecDepth 100000 in
/-- Two orders that are against each other in all pairs. -/
theorem bkI_compl {q q' : Int → Int → Bool} : ∀ {xs : List Int}, xs.Nodup → (∀ x ∈ xs, ∀ y ∈ xs, x ≠ y → q y x = !q' y x) → 2 * (bkI q xs + bkI q' xs) = xs.length * (xs.length - 1)
  | [], _, _ => rfl
  | x :: xs, hd, h => by
    rw [List.nodup_cons] at hd
    have ih := bkI_compl (xs := xs) hd.2 (fun a ha b hb => h a (by simp [ha]) b (by simp [hb]))
    have h1 : xs.countP (fun y => q y x) + xs.countP (fun y => q' y x) = xs.length := by
      have : ∀ ys : List Int, (∀ y ∈ ys, q y x = !q' y x) → ys.countP (fun y => q y x) + ys.countP (fun y => q' y x) = ys.length := by
        intro ys
        induction ys with
        | nil => intro _; rfl
        | cons y ys ih2 =>
          intro hy
          have h2 := hy y (by simp)
          have h3 := ih2 (fun z hz => hy z (by simp [hz]))
          rw [List.countP_cons, List.countP_cons, List.length_cons, h2]
          cases q' y x <;> simp <;> omega
      exact this xs (fun y hy => h x (by simp) y (by simp [hy]) (fun e => hd.1 (e ▸ hy)))
    rw [bkI, bkI, List.length_cons]
    obtain ⟨m, hm⟩ : ∃ m, m = xs.length := ⟨_, rfl⟩
    rw [← hm] at h1 ih ⊢
    have e : (m + 1) * (m + 1 - 1) = 2 * m + m * (m - 1) := by
      cases m with
      | zero => rfl
      | succ k =>
        show (k + 1 + 1) * (k + 1) = 2 * (k + 1) + (k + 1) * k
        rw [Nat.add_mul, Nat.mul_add, Nat.mul_comm (k + 1) k]
        omega
    omega
set_option maxRecDepth 100000 in
theorem pref_rev {n : Nat} {r : List Int} (h : rkOk n r = true) {x y : Int} (hx : x ∈ r) (hy : y ∈ r) : prefB r.reverse x y = prefB r y x := by
  have hr : rkOk n r.reverse = true := rk_perm_ok (List.reverse_perm r) h
  have mx := rk_mem h hx
  have my := rk_mem h hy
  have hl := (rk_len h).1
  obtain ⟨a, rfl⟩ : ∃ a : Nat, x = a := ⟨x.toNat, by omega⟩
  obtain ⟨b, rfl⟩ : ∃ b : Nat, y = b := ⟨y.toNat, by omega⟩
  obtain ⟨i, hin, _, hi, _⟩ := place_at h (a := a) (by omega)
  obtain ⟨j, hjn, _, hj, _⟩ := place_at h (a := b) (by omega)
  have ra : r.reverse[n - 1 - i]? = some (a : Int) := by
    rw [List.getElem?_reverse (by omega), show r.length - 1 - (n - 1 - i) = i by omega, hi]
  have rb : r.reverse[n - 1 - j]? = some (b : Int) := by
    rw [List.getElem?_reverse (by omega), show r.length - 1 - (n - 1 - j) = j by omega, hj]
  rw [pref_of hr (by omega) (by omega) ra rb, pref_of h (by omega) (by omega) hj hi, decide_eq_decide]
  omega
set_option maxRecDepth 100000 in
theorem kem_rev {n : Nat} {r : List Int} (h : rkOk n r = true) : ∀ {vs : List Vt}, SmallV n vs → 2 * (kemV vs r + kemV vs r.reverse) = (n : Int) * ((n : Int) - 1) * allV vs
  | [], _ => by
    have : allV [] = 0 := rfl
    rw [this, Int.mul_zero]; rfl
  | x :: vs, hS => by
    have ih := kem_rev h hS.tail
    have e : ∀ r, kemV (x :: vs) r = x.2 * (swapN x.1 r : Int) + kemV vs r := fun r => by simp [kemV]
    have hx := hS.head.1
    have hl := (rk_len hx).1
    have hn := (rk_len h).1
    have h1 : 2 * (swapN x.1 r + swapN x.1 r.reverse) = x.1.length * (x.1.length - 1) := by
      refine bkI_compl (rk_nodup hx) (fun a ha b hb hne => ?_)
      have ma := rk_mem hx ha
      have mb := rk_mem hx hb
      obtain ⟨i, rfl⟩ : ∃ i : Nat, a = i := ⟨a.toNat, by omega⟩
      obtain ⟨j, rfl⟩ : ∃ j : Nat, b = j := ⟨b.toNat, by omega⟩
      rw [pref_rev h (rk_all h (by omega)) (rk_all h (by omega))]
      exact pref_tot h (by omega) (by omega) (fun e => hne (by omega))
    have hln : x.1.length = n := by omega
    rw [hln] at h1
    have h2 : 2 * ((swapN x.1 r : Int) + (swapN x.1 r.reverse : Int)) = (n : Int) * ((n : Int) - 1) := by
      have n1 : 1 ≤ n := by
        have := hS.head.1
        simp only [rkOk, Bool.and_eq_true] at this
        have := inR_iff.1 this.1
        omega
      have e2 : ((n * (n - 1) : Nat) : Int) = (n : Int) * ((n : Int) - 1) := by
        rw [Int.natCast_mul]
        congr 1
        omega
      rw [← e2, ← h1]
      omega
    rw [e, e, allV_cons]
    generalize (swapN x.1 r : Int) = A at h2 ⊢
    generalize (swapN x.1 r.reverse : Int) = B at h2 ⊢
    rw [Int.mul_add ((n : Int) * ((n : Int) - 1)) x.2 (allV vs), ← ih, ← h2]
    have e3 : 2 * (A + B) * x.2 = 2 * (x.2 * A + x.2 * B) := by rw [Int.mul_assoc, Int.add_mul, Int.mul_comm A, Int.mul_comm B]
    rw [e3]
    omega

def Bd (xs : List Int) : Prop := ∀ x ∈ xs, -1000000000000 ≤ x ∧ x ≤ 1000000000000
set_option maxRecDepth 100000 in
theorem sum_at {xs : List Int} {k : Nat} {x : Int} (h : xs[k]? = some x) : (xs.take (k + 1)).sum = (xs.take k).sum + x := by rw [take_at h, List.sum_append]; simp
set_option maxRecDepth 100000 in
theorem sum_bd {xs : List Int} (h : Bd xs) : ∀ k, k ≤ xs.length → -1000000000000 * (k : Int) ≤ (xs.take k).sum ∧ (xs.take k).sum ≤ 1000000000000 * (k : Int)
  | 0, _ => by simp
  | k + 1, hk => by
    obtain ⟨x, hx⟩ := at_of_lt (xs := xs) (k := k) (by omega)
    have ih := sum_bd h k (by omega)
    have h2 := h x (List.mem_of_getElem? hx)
    rw [sum_at hx]
    omega

set_option maxRecDepth 100000 in
set_option maxHeartbeats 1000000 in
theorem sum_law (w : World) (a : Option Addr) (n c : Nat) (xs : List Int) (hn : n = xs.length) (hR : RdI w a xs) (hl : xs.length ≤ 1000) (hb : Bd xs) :
    Calls Try.prog 39 #[.slice a n c] w fun e w' => e = .returned (.int .i64 xs.sum) ∧ Ext w w' := by
  subst hn
  have HB := hide hb
  clear hb
  go_enter Try.func39, Try.ntmps39
  go_wp2_with fail
  go_loopw [3, 5, 8] (fun s _ i wr => ∃ k : Nat, k ≤ xs.length ∧ i = .int .i64 k ∧ s = .int .i64 (xs.take k).sum ∧ Ext w wr) (fun _ _ i _ => xs.length - (intOf i).toNat)
  case atStart => exact ⟨0, Nat.zero_le _, rfl, by simp, Ext.refl _⟩
  case round =>
    obtain ⟨k, hk, rfl, rfl, hwr⟩ := hrel
    by_cases hkt : k < xs.length
    · obtain ⟨x, hx⟩ := at_of_lt hkt
      obtain ⟨b, off, rfl, c0⟩ := (hR.ext hwr).at_ hx
      have h1 := sum_bd HB.out k hk
      have h2 := HB.out x (List.mem_of_getElem? hx)
      have HN := hide (sum_at hx)
      have HW : Hid (wrap64 ((xs.take k).sum + x) = (xs.take k).sum + x) := hide (IntWalk.wrap64_in _ (by omega))
      clear hx
      generalize (xs.take k).sum = S at h1 HN HW ⊢
      go_wp2
      exact ⟨⟨k + 1, by omega, by go_num, by rw [HN.out], hwr⟩, by simp [intOf]; omega⟩
    · have HN : Hid ((xs.take k).sum = xs.sum) := hide (by rw [List.take_of_length_le (by omega)])
      go_wp2
      go_ret
      exact ⟨ret_int HN.out, hwr⟩

set_option maxRecDepth 100000 in
set_option maxHeartbeats 1000000 in
theorem count_law (w : World) (a : Option Addr) (n c : Nat) (xs : List Int) (x : Int) (hn : n = xs.length) (hR : RdI w a xs) (hl : xs.length ≤ 1000) :
    Calls Try.prog 98 #[.slice a n c, .int .i64 x] w fun e w' => e = .returned (.int .i64 (xs.countP (fun y => y == x) : Nat)) ∧ Ext w w' := by
  subst hn
  go_enter Try.func98, Try.ntmps98
  go_wp2_with fail
  go_loopw [5, 7, 10] (fun s _ i wr => ∃ k : Nat, k ≤ xs.length ∧ i = .int .i64 k ∧ s = .int .i64 ((xs.take k).countP (fun y => y == x) : Nat) ∧ Ext w wr) (fun _ _ i _ => xs.length - (intOf i).toNat)
  case atStart => exact ⟨0, Nat.zero_le _, rfl, rfl, Ext.refl _⟩
  case round =>
    obtain ⟨k, hk, rfl, rfl, hwr⟩ := hrel
    have hc := List.countP_le_length (p := fun y => y == x) (l := xs.take k)
    rw [List.length_take] at hc
    by_cases hkt : k < xs.length
    · obtain ⟨y, hy⟩ := at_of_lt hkt
      obtain ⟨b, off, rfl, c0⟩ := (hR.ext hwr).at_ hy
      have HN : Hid ((xs.take (k + 1)).countP (fun y => y == x) = (xs.take k).countP (fun y => y == x) + if (y == x) = true then 1 else 0) := hide (by rw [take_at hy, List.countP_append, List.countP_cons, List.countP_nil]; simp)
      clear hy
      cases hq : (y == x)
      all_goals
        rw [hq] at HN
        go_wp2
        refine ⟨⟨k + 1, by omega, by go_num, ?_, hwr⟩, by simp [intOf]; omega⟩
        rw [HN.out]
        simp
    · have HN : Hid ((xs.take k).countP (fun y => y == x) = xs.countP (fun y => y == x)) := hide (by rw [List.take_of_length_le (by omega)])
      go_wp2
      go_ret
      exact ⟨ret_int (by rw [HN.out]), hwr⟩

set_option maxRecDepth 100000 in
set_option maxHeartbeats 1000000 in
theorem has_law (w : World) (a : Option Addr) (n c : Nat) (xs : List Int) (x : Int) (hn : n = xs.length) (hR : RdI w a xs) (hl : xs.length ≤ 1000) :
    Calls Try.prog 17 #[.slice a n c, .int .i64 x] w fun e w' => e = .returned (.bool (hasI xs x)) ∧ Ext w w' := by
  have HC := hide (count_law w a n c xs x hn hR hl)
  clear hR hn
  go_enter Try.func17, Try.ntmps17
  go_wp2_with fail
  refine HC.out.mono ?_
  rintro e w1 ⟨rfl, hw1⟩
  go_wp2
  go_ret
  exact ⟨ret_bool (by rw [Bool.eq_iff_iff, decide_eq_true_iff, hasI_iff]), hw1⟩

set_option maxRecDepth 100000 in
set_option maxHeartbeats 1000000 in
theorem same_law (w : World) (a a2 : Option Addr) (n n2 c c2 : Nat) (xs : List Int) (hn : n = xs.length) (hn2 : n2 = xs.length) (hR : RdI w a xs) (hR2 : RdI w a2 xs) (hl : xs.length ≤ 1000) :
    Calls Try.prog 47 #[.slice a n c, .slice a2 n2 c2] w fun e w' => e = .returned (.bool true) ∧ Ext w w' := by
  subst hn
  subst hn2
  go_enter Try.func47, Try.ntmps47
  go_wp2_with fail
  go_loopw [5, 6, 14] (fun _ _ i wr => ∃ k : Nat, k ≤ xs.length ∧ i = .int .i64 k ∧ Ext w wr) (fun _ _ i _ => xs.length - (intOf i).toNat)
  case atStart => exact ⟨0, Nat.zero_le _, rfl, Ext.refl _⟩
  case round =>
    obtain ⟨k, hk, rfl, hwr⟩ := hrel
    by_cases hkt : k < xs.length
    · obtain ⟨x, hx⟩ := at_of_lt hkt
      obtain ⟨b, off, rfl, c0⟩ := (hR.ext hwr).at_ hx
      obtain ⟨b2, off2, rfl, c1⟩ := (hR2.ext hwr).at_ hx
      clear hx
      go_wp2
      exact ⟨⟨k + 1, by omega, by go_num, hwr⟩, by simp [intOf]; omega⟩
    · go_wp2
      go_ret
      exact ⟨rfl, hwr⟩

/-- A call that returns a value, from a world on. -/
def ValC (K : Nat) (args : Array Value) (W0 : World) (v : Value) : Prop := ∀ W, Ext W0 W → Calls Try.prog K args W fun e w' => e = .returned v ∧ Ext W w'
/-- A call that returns a list of numbers, from a world on. -/
def LstC (K : Nat) (args : Array Value) (W0 : World) (xs : List Int) : Prop := ∀ W, Ext W0 W → Calls Try.prog K args W fun e w' => ∃ a c, e = .returned (.slice a xs.length c) ∧ RdI w' a xs ∧ xs.length ≤ c ∧ Ext W w'
set_option maxRecDepth 100000 in
theorem ValC.at {K : Nat} {args : Array Value} {W0 : World} {v : Value} (h : ValC K args W0 v) (W : World) (hW : Ext W0 W) : Calls Try.prog K args W fun e w' => e = .returned v ∧ Ext W w' := h W hW
set_option maxRecDepth 100000 in
theorem LstC.at {K : Nat} {args : Array Value} {W0 : World} {xs : List Int} (h : LstC K args W0 xs) (W : World) (hW : Ext W0 W) : Calls Try.prog K args W fun e w' => ∃ a c, e = .returned (.slice a xs.length c) ∧ RdI w' a xs ∧ xs.length ≤ c ∧ Ext W w' := h W hW

set_option maxRecDepth 100000 in
theorem cope_eq {n : Nat} {vs : List Vt} (h0 : profOk n vs = true) : copeO n vs = rowL n (copeV n vs) := by unfold copeO; rw [if_pos h0, Int.toNat_natCast]
set_option maxRecDepth 100000 in
theorem maxi_eq {n : Nat} {vs : List Vt} (h0 : profOk n vs = true) : maxiO n vs = rowL n (fun i => minTo vs (allV vs) i n) := by unfold maxiO; rw [if_pos h0, Int.toNat_natCast]
set_option maxRecDepth 100000 in
theorem cope_bd {n : Nat} (n5 : n ≤ 5) (vs : List Vt) : Bd (rowL n (copeV n vs)) := fun x hx => by
  obtain ⟨i, hi⟩ := List.getElem?_of_mem hx
  obtain ⟨_, rfl⟩ := rowL_val hi
  have := copeV_bd n vs i
  omega
set_option maxRecDepth 100000 in
theorem margO_eq {n : Nat} {vs : List Vt} (h0 : profOk n vs = true) {x y : Nat} (hx : x < n) (hy : y < n) : marginO n vs x y = marginV vs x y := by
  unfold marginO
  have e1 : hasB n x = true := inR_iff.2 (by omega)
  have e2 : hasB n y = true := inR_iff.2 (by omega)
  rw [h0, e1, e2]
  rfl
set_option maxRecDepth 100000 in
theorem coverO_eq {n : Nat} {vs : List Vt} (h0 : profOk n vs = true) {x y : Nat} (hx : x < n) (hy : y < n) : coverO n vs x y = coversV n vs x y := by
  unfold coverO
  have e1 : hasB n x = true := inR_iff.2 (by omega)
  have e2 : hasB n y = true := inR_iff.2 (by omega)
  rw [h0, e1, e2]
  rfl

end Go.Proofs.Ythiojkpoeejkaaa
