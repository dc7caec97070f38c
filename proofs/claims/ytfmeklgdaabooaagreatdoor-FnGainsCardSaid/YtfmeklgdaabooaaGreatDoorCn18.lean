/- What FnPaths says of a profile (plain law). The counts of a round. What FnRounds says of a profile (plain law). slices.IndexFunc and ContainsFunc over lists of lists, with a function. slices' stable sort with a function, of a short list. -/
import Derived.Test.YtfmeklgdaabooaaGreatDoorCn17
import Derived.Test.YtfmeklgdaabooaaGreatDoorCn11
import Derived.Test.YtfmeklgdaabooaaGreatDoorCn14
import Derived.Test.YtfmeklgdaabooaaGreatDoorCn13
import Derived.Test.YtfmeklgdaabooaaGreatDoorCn4
import Derived.Test.YtfmeklgdaabooaaGreatDoorCn12
import Derived.Test.YtfmeklgdaabooaaGreatDoorCn3
import Derived.Test.YtfmeklgdaabooaaGreatDoorCn7
namespace Go.Proofs.YtfmeklgdaabooaaGreatDoor
open Go.RowKit

set_option maxRecDepth 100000 in
/-- Paths that lead out of the rest have no strength. -/
theorem fwK_out {n : Nat} {M : Nat → Nat → Int} {T : Nat → Bool} (hM : FwOk M) (h : ∀ x y, x < n → y < n → T x = false → T y = true → M x y = 0) : ∀ k, k ≤ n → FwOk (fwK n M k) ∧ ∀ x y, x < n → y < n → T x = false → T y = true → fwK n M k x y = 0
  | 0, _ => ⟨hM, h⟩
  | k + 1, hk => by
    have ih := fwK_out hM h k (by omega)
    have hat := fun x y => fwA_at (n := n) ih.1 k n x y
    refine ⟨⟨fun x => ?_, fun x y => ?_⟩, fun x y hx hy tx ty => ?_⟩
    · rw [fwK, hat, if_neg (by omega)]; exact ih.1.diag x
    · rw [fwK, hat]
      have := ih.1.pos x y
      split <;> omega
    · rw [fwK, hat]
      have h1 := ih.2 x y hx hy tx ty
      have p1 := ih.1.pos x k
      have p2 := ih.1.pos k y
      cases tk : T k
      · have := ih.2 k y (by omega) hy tk ty
        split <;> omega
      · have := ih.2 x k hx (by omega) tx tk
        split <;> omega
set_option maxRecDepth 100000 in
theorem fwK_ge {n : Nat} {M : Nat → Nat → Int} (hM : FwOk M) : ∀ k, k ≤ n → FwOk (fwK n M k) ∧ ∀ x y, M x y ≤ fwK n M k x y
  | 0, _ => ⟨hM, fun x y => Int.le_refl _⟩
  | k + 1, hk => by
    have ih := fwK_ge (n := n) hM k (by omega)
    have hat := fun x y => fwA_at (n := n) ih.1 k n x y
    refine ⟨⟨fun x => ?_, fun x y => ?_⟩, fun x y => ?_⟩
    · rw [fwK, hat, if_neg (by omega)]; exact ih.1.diag x
    · rw [fwK, hat]
      have := ih.1.pos x y
      split <;> omega
    · rw [fwK, hat]
      have := ih.2 x y
      split <;> omega
set_option maxRecDepth 100000 in
theorem sch_top {n : Nat} {vs : List Vt} (h0 : profOk n vs = true) {x : Int} (hx : x ∈ schO n vs) : x ∈ topO n vs := by
  have hS := prof_small h0
  have hsz := prof_size h0
  obtain ⟨s, h⟩ := top_f h0
  obtain ⟨a, ha, rfl, hb⟩ := (sch_mem h0).1 hx
  rw [h.memN ha]
  cases hba : bitAt (s : Int) a
  · exfalso
    obtain ⟨b, hbn, hbb⟩ := h.some (by omega)
    have h1 := h.dom b a hbn ha hbb hba
    have h2 : 0 < fw0 vs b a := by
      unfold fw0
      rw [if_pos h1]
      have h3 := (sumV_bd' (p := fun r => prefB r (a : Int) (b : Int)) hS).1
      unfold bt beatsV at h1
      rw [decide_eq_true_eq] at h1
      unfold pairV at h1 ⊢
      omega
    have h3 := (fwK_ge (n := n) (fw0_ok hS) n (Nat.le_refl _)).2 b a
    have h4 := (fwK_out (n := n) (T := fun i => bitAt (s : Int) i) (fw0_ok hS) (fun x y hx hy tx ty => by
      unfold fw0
      rw [if_neg]
      rw [bt_anti vs _ _ (h.dom y x hy hx ty tx)]
      decide) n (Nat.le_refl _)).2 a b ha hbn hba hbb
    have h5 := hb b hbn
    unfold pthV at h5
    omega
  · rfl

set_option maxRecDepth 100000 in
theorem prRow_has {vs : List Vt} {a b : Nat} (h : beatsV vs a b = true) : ∀ m, b < m → [(a : Int), (b : Int)] ∈ prRow vs a m
  | 0, hb => by omega
  | m + 1, hb => by
    rw [prRow, List.mem_append]
    by_cases e : b = m
    · subst e
      rw [if_pos h]
      exact .inr (by simp)
    · exact .inl (prRow_has h m (by omega))
set_option maxRecDepth 100000 in
theorem prAll_has {n : Nat} {vs : List Vt} {a b : Nat} (hb : b < n) (h : beatsV vs a b = true) : ∀ m, a < m → [(a : Int), (b : Int)] ∈ prAll n vs m
  | 0, ha => by omega
  | m + 1, ha => by
    rw [prAll, List.mem_append]
    by_cases e : a = m
    · subst e; exact .inr (prRow_has h n hb)
    · exact .inl (prAll_has hb h m (by omega))
set_option maxRecDepth 100000 in
theorem lock_mono (xss : List (List Int)) {k : Nat} {y : List Int} (hy : y ∈ lockL (xss.take k)) : ∀ m, k ≤ m → m ≤ xss.length → y ∈ lockL (xss.take m)
  | 0, hk, _ => by
    have : k = 0 := by omega
    subst this; exact hy
  | m + 1, hk, hm => by
    by_cases e : k = m + 1
    · subst e; exact hy
    · have ih := lock_mono xss hy m (by omega) (by omega)
      obtain ⟨x, hx⟩ := at_of_lt (xs := xss) (k := m) (by omega)
      rw [lockL_at hx]
      unfold lockS
      split
      · exact ih
      · exact List.mem_append_left _ ih
set_option maxRecDepth 100000 in
theorem lock_or {xss : List (List Int)} {x : List Int} (hx : x ∈ xss) : x ∈ lockL xss ∨ ∃ kept, (∀ y ∈ kept, y ∈ xss) ∧ ReachL kept (p1 x) (p0 x) := by
  obtain ⟨k, hk⟩ := List.mem_iff_getElem?.1 hx
  have hl := lt_of_at hk
  by_cases h : wayB (lockL (xss.take k)) (p1 x) (p0 x) = true
  · exact .inr ⟨_, lockL_mem xss k (by omega), wayB_iff.1 h⟩
  · refine .inl ?_
    rw [lockL_all]
    refine lock_mono xss (k := k + 1) ?_ _ (by omega) (Nat.le_refl _)
    rw [lockL_at hk]
    unfold lockS
    rw [if_neg h]
    simp
set_option maxRecDepth 100000 in
theorem lok_eq {n : Nat} {vs : List Vt} (h0 : profOk n vs = true) : lokO n vs = lockL (srtP n vs) := by unfold lokO; rw [if_pos h0, Int.toNat_natCast]
set_option maxRecDepth 100000 in
theorem lok_ranked {n : Nat} {vs : List Vt} (h0 : profOk n vs = true) : Ranked (lokO n vs) := by
  rw [lok_eq h0, lockL_all]
  exact lockL_ranked _ _ (Nat.le_refl _)
set_option maxRecDepth 100000 in
theorem lok_mem {n : Nat} {vs : List Vt} (h0 : profOk n vs = true) {x : List Int} (hx : x ∈ lokO n vs) : ∃ a b : Nat, a < n ∧ b < n ∧ x = [(a : Int), (b : Int)] ∧ beatsV vs a b = true := by
  rw [lok_eq h0] at hx
  obtain ⟨⟨a, b, ha, hb, rfl⟩, h⟩ := srtP_mem (lok_sub _ x hx)
  exact ⟨a, b, ha, hb, rfl, h⟩
set_option maxRecDepth 100000 in
/-- From the top cycle to the rest all pairs are kept. -/
theorem lok_top {n : Nat} {vs : List Vt} {s : Nat} (h0 : profOk n vs = true) (h : TopF n vs s) {b a : Nat} (hb : b < n) (ha : a < n) (bb : bitAt (s : Int) b = true) (ba : bitAt (s : Int) a = false) : [(b : Int), (a : Int)] ∈ lokO n vs := by
  have h1 := h.dom b a hb ha bb ba
  have hm : [(b : Int), (a : Int)] ∈ srtP n vs := sortD_mem.2 (prAll_has ha h1 n hb)
  rw [lok_eq h0]
  rcases lock_or hm with h2 | ⟨kept, hk, hr⟩
  · exact h2
  · exfalso
    have h3 := reach_in (seen := upL n (fun i => !bitAt (s : Int) i)) (fun x hx hp => by
      obtain ⟨⟨i, j, hi, hj, rfl⟩, hbt⟩ := srtP_mem (hk x hx)
      obtain ⟨i', _, hi', e⟩ := upL_mem.1 hp
      have ei : i' = i := by
        have : (i : Int) = i' := e
        omega
      subst ei
      refine upL_mem.2 ⟨j, hj, ?_, rfl⟩
      cases hbj : bitAt (s : Int) j
      · rfl
      · have h4 := bt_anti vs _ _ (h.dom j i' hj hi hbj (by simpa using hi'))
        have h5 : bt vs i' j = true := hbt
        rw [h4] at h5
        cases h5) hr (upL_mem.2 ⟨a, ha, by rw [ba]; rfl, rfl⟩)
    obtain ⟨b', _, hb', e⟩ := upL_mem.1 h3
    have eb : b' = b := by
      have : (b : Int) = b' := e
      omega
    subst eb
    rw [bb] at hb'
    cases hb'

set_option maxRecDepth 100000 in
theorem prL_take {kept : List (List Int)} {n : Nat} : ∀ m k, k ≤ m → (prL kept n m).take k = prL kept n k
  | 0, k, hk => by
    have : k = 0 := by omega
    subst this; rfl
  | m + 1, k, hk => by
    by_cases e : k = m + 1
    · subst e
      exact List.take_of_length_le (by rw [prL_len]; exact Nat.le_refl _)
    · rw [prL, List.take_append_of_le_length (by rw [prL_len]; omega), prL_take m k (by omega)]
set_option maxRecDepth 100000 in
theorem prL_at {kept : List (List Int)} {n m k : Nat} (hk : k < m) : (prL kept n m)[k]? = some (nextV kept n (prL kept n k)) := by
  have h1 := prL_take (kept := kept) (n := n) m (k + 1) (by omega)
  rw [← List.getElem?_take_of_lt (show k < k + 1 by omega), h1, prL, List.getElem?_append_right (by rw [prL_len]; exact Nat.le_refl _), prL_len]
  simp
set_option maxRecDepth 100000 in
theorem prk_next {kept : List (List Int)} {n k : Nat} (hr : Ranked kept) (hk : k < n) : ∃ i : Nat, i < n ∧ (i : Int) ∈ leftL n (prL kept n k) ∧ nextV kept n (prL kept n k) = i ∧ freeB kept (leftL n (prL kept n k)) i = true := by
  have hl := leftL_prL (n := n) hr k (by omega)
  have hne : leftL n (prL kept n k) ≠ [] := fun e => by rw [e] at hl; simp at hl; omega
  obtain ⟨i, hi, hq, _, hv⟩ := next_some hr hne
  unfold nextQ at hq
  rw [Bool.and_eq_true] at hq
  exact ⟨i, hi, (notIn_iff hi).1 hq.1, hv, hq.2⟩
set_option maxRecDepth 100000 in
theorem prL_nodup {kept : List (List Int)} {n : Nat} (hr : Ranked kept) : ∀ k, k ≤ n → (prL kept n k).Nodup
  | 0, _ => List.nodup_nil
  | k + 1, hk => by
    obtain ⟨i, hi, hm, hv, _⟩ := prk_next (n := n) hr (k := k) (by omega)
    obtain ⟨j, _, hn, e⟩ := leftL_mem.1 hm
    rw [prL, hv, List.nodup_append]
    refine ⟨prL_nodup hr k (by omega), by simp, fun x hx y hy => ?_⟩
    simp at hy
    rw [hy, e]
    rintro rfl
    exact hn hx
set_option maxRecDepth 100000 in
theorem prL_rk {kept : List (List Int)} {n : Nat} (n1 : 1 ≤ n) (n5 : n ≤ 5) (hr : Ranked kept) : rkOk n (prL kept n n) = true := by
  simp only [rkOk, Bool.and_eq_true, decide_eq_true_eq, List.all_eq_true]
  refine ⟨inR_iff.2 (by omega), by rw [prL_len], fun x hx => ?_, prL_nodup hr n (Nat.le_refl _)⟩
  obtain ⟨k, hk⟩ := List.mem_iff_getElem?.1 hx
  have hlt := lt_of_at hk
  rw [prL_len] at hlt
  rw [prL_at hlt] at hk
  injection hk with hk
  obtain ⟨i, hi, _, hv, _⟩ := prk_next (n := n) hr hlt
  rw [← hk, hv]
  exact inR_iff.2 (by omega)
set_option maxRecDepth 100000 in
theorem pref_of {n : Nat} {r : List Int} (h : rkOk n r = true) {a b i j : Nat} (ha : a < n) (hb : b < n) (hi : r[i]? = some (a : Int)) (hj : r[j]? = some (b : Int)) : prefB r a b = decide (i < j) := by
  obtain ⟨p, _, ep, _, hu⟩ := place_at h ha
  obtain ⟨q, _, eq, _, hv⟩ := place_at h hb
  have h1 := hu i hi
  have h2 := hv j hj
  unfold prefB
  rw [ep, eq, h1, h2]
  have d1 : decide ((0 : Int) ≤ (p : Int)) = true := decide_eq_true (by omega)
  have d2 : decide ((0 : Int) ≤ (q : Int)) = true := decide_eq_true (by omega)
  rw [d1, d2, Bool.true_and, Bool.true_and, decide_eq_decide]
  omega
set_option maxRecDepth 100000 in
/-- The order keeps the kept pairs. -/
theorem prk_keeps {kept : List (List Int)} {n : Nat} (n1 : 1 ≤ n) (n5 : n ≤ 5) (hr : Ranked kept) {a b : Nat} (ha : a < n) (hb : b < n) (hx : [(a : Int), (b : Int)] ∈ kept) : prefB (prL kept n n) a b = true := by
  have hk := prL_rk n1 n5 hr
  obtain ⟨j, hj, _, hbj, _⟩ := place_at hk hb
  have hat := prL_at (kept := kept) (n := n) hj
  obtain ⟨i, hi, hm, hv, hf⟩ := prk_next (n := n) hr hj
  rw [hbj, hv] at hat
  injection hat with hat
  have hib : i = b := by omega
  subst hib
  have hal : (a : Int) ∉ leftL n (prL kept n j) := fun hin => by
    unfold freeB at hf
    rw [Bool.not_eq_true', List.any_eq_false] at hf
    apply hf _ hx
    show ((i : Int) == (i : Int) && hasI (leftL n (prL kept n j)) (a : Int)) = true
    rw [hasI_iff.2 hin]
    simp
  have hap : (a : Int) ∈ prL kept n j := by
    by_cases e : (a : Int) ∈ prL kept n j
    · exact e
    · exact absurd (leftL_mem.2 ⟨a, ha, e, rfl⟩) hal
  rw [← prL_take (kept := kept) (n := n) n j (by omega)] at hap
  obtain ⟨q, hq⟩ := List.mem_iff_getElem?.1 hap
  have hql : q < j := by have := lt_of_at hq; rw [List.length_take] at this; omega
  rw [List.getElem?_take_of_lt hql] at hq
  rw [pref_of hk ha hb hq hbj]
  exact decide_eq_true hql
set_option maxRecDepth 100000 in
theorem prk_eq {n : Nat} {vs : List Vt} (h0 : profOk n vs = true) : prkO n vs = prL (lokO n vs) n n := by unfold prkO; rw [if_pos h0, Int.toNat_natCast]
set_option maxRecDepth 100000 in
theorem prk_first {n : Nat} {vs : List Vt} (h0 : profOk n vs = true) : ∃ x, (prkO n vs)[0]? = some x ∧ x ∈ topO n vs := by
  have hsz := prof_size h0
  obtain ⟨s, h⟩ := top_f h0
  have hr := lok_ranked h0
  obtain ⟨i, hi, _, hv, hf⟩ := prk_next (n := n) hr (show 0 < n by omega)
  rw [prk_eq h0]
  refine ⟨i, by rw [prL_at (show 0 < n by omega), hv], ?_⟩
  rw [h.memN hi]
  cases hbi : bitAt (s : Int) i
  · exfalso
    obtain ⟨b, hb, hbb⟩ := h.some (by omega)
    have h1 := lok_top h0 h hb hi hbb hbi
    unfold freeB at hf
    rw [Bool.not_eq_true', List.any_eq_false] at hf
    apply hf _ h1
    show ((i : Int) == (i : Int) && hasI (leftL n (prL (lokO n vs) n 0)) (b : Int)) = true
    rw [hasI_iff.2 (leftL_mem.2 ⟨b, hb, by simp [prL], rfl⟩)]
    simp
  · rfl

set_option maxRecDepth 100000 in
/-- A list that does not begin in a set and has a member of it, comes to it somewhere. -/
theorem first_in (P : Int → Bool) : ∀ {x : Int} {r : List Int}, P x = false → (∃ y ∈ r, P y = true) → ∃ xs a b ys, x :: r = xs ++ a :: b :: ys ∧ P a = false ∧ P b = true
  | x, [], _, h => by obtain ⟨y, hy, _⟩ := h; simp at hy
  | x, z :: r, hx, h => by
    by_cases hz : P z = true
    · exact ⟨[], x, z, r, rfl, hx, hz⟩
    · obtain ⟨y, hy, hp⟩ := h
      rcases List.mem_cons.1 hy with rfl | hy
      · exact absurd hp hz
      · obtain ⟨xs, a, b, ys, e, h1, h2⟩ := first_in P (x := z) (r := r) (by simpa using hz) ⟨y, hy, hp⟩
        exact ⟨x :: xs, a, b, ys, by rw [e]; rfl, h1, h2⟩
set_option maxRecDepth 100000 in
theorem kem_eq {n : Nat} {vs : List Vt} (h0 : profOk n vs = true) : kemO n vs = (lstR (kemV vs) n).1 := by unfold kemO lstO; rw [if_pos h0, Int.toNat_natCast]
set_option maxRecDepth 100000 in
theorem kem_min {n : Nat} {vs : List Vt} (h0 : profOk n vs = true) : rkOk n (kemO n vs) = true ∧ ∀ r, rkOk n r = true → kemV vs (kemO n vs) ≤ kemV vs r := by
  have hsz := prof_size h0
  have h := lst_min (cost := kemV vs) (n := n) (by omega) (by omega)
  rw [kem_eq h0]
  exact ⟨h.1, h.2.2.1⟩
set_option maxRecDepth 100000 in
/-- Of two neighbours in the nearest ranking the later one does not beat the earlier one. -/
theorem kem_nbs {n : Nat} {vs : List Vt} (h0 : profOk n vs = true) {xs ys : List Int} {a b : Int} (e : kemO n vs = xs ++ a :: b :: ys) : beatsV vs b a = false := by
  obtain ⟨hk, hm⟩ := kem_min h0
  have hS := prof_small h0
  rw [e] at hk hm
  have h1 := kem_nb hk (rk_nb hk) hS
  have h2 := hm _ (rk_nb hk)
  unfold beatsV
  rw [decide_eq_false_iff_not]
  omega
set_option maxRecDepth 100000 in
theorem kem_first {n : Nat} {vs : List Vt} (h0 : profOk n vs = true) : ∃ x, (kemO n vs)[0]? = some x ∧ x ∈ topO n vs := by
  have hsz := prof_size h0
  obtain ⟨s, h⟩ := top_f h0
  obtain ⟨hk, _⟩ := kem_min h0
  have hl := (rk_len hk).1
  obtain ⟨x, hx⟩ := at_of_lt (xs := kemO n vs) (k := 0) (by omega)
  refine ⟨x, hx, ?_⟩
  have hm := rk_mem hk (List.mem_of_getElem? hx)
  obtain ⟨i, rfl⟩ : ∃ i : Nat, x = i := ⟨x.toNat, by omega⟩
  have hi : i < n := by omega
  rw [h.memN hi]
  cases hbi : bitAt (s : Int) i
  · exfalso
    obtain ⟨b, hb, hbb⟩ := h.some (by omega)
    have hbm := rk_all hk hb
    cases hr : kemO n vs with
    | nil => rw [hr] at hx; simp at hx
    | cons z r =>
      rw [hr] at hx hbm
      have hz : z = i := by simpa using hx
      subst hz
      have hbr : (b : Int) ∈ r := by
        rcases List.mem_cons.1 hbm with e | hm
        · have : b = i := by omega
          rw [this, hbi] at hbb
          cases hbb
        · exact hm
      obtain ⟨xs, p, q, ys, e, hp, hq⟩ := first_in (fun y => bitAt (s : Int) y.toNat) (x := (i : Int)) (r := r) (by simpa using hbi) ⟨b, hbr, by simpa using hbb⟩
      have e2 : kemO n vs = xs ++ p :: q :: ys := by rw [hr, e]
      have h1 := kem_nbs h0 e2
      have mp := rk_mem hk (show p ∈ kemO n vs by rw [e2]; simp)
      have mq := rk_mem hk (show q ∈ kemO n vs by rw [e2]; simp)
      have h2 := h.dom q.toNat p.toNat (by omega) (by omega) hq hp
      unfold bt at h2
      rw [show ((q.toNat : Nat) : Int) = q by omega, show ((p.toNat : Nat) : Int) = p by omega, h1] at h2
      cases h2
  · rfl

set_option maxRecDepth 100000 in
theorem beats_in {n : Nat} {vs : List Vt} (hS : SmallV n vs) {x y : Int} (h : beatsV vs x y = true) : (0 ≤ x ∧ x < n) ∧ (0 ≤ y ∧ y < n) := by
  unfold beatsV at h
  rw [decide_eq_true_eq] at h
  have h1 := (sumV_bd' (p := fun r => prefB r y x) hS).1
  have h2 : ∃ v ∈ vs, prefB v.1 x y = true := by
    by_cases hc : ∃ v ∈ vs, prefB v.1 x y = true
    · exact hc
    · exfalso
      have : pairV vs x y = 0 := by
        unfold pairV
        rw [sumV_congr (q := fun _ => false) (fun v hv => by
          cases hp : prefB v.1 x y
          · rfl
          · exact absurd ⟨v, hv, hp⟩ hc), sumV_none]
      unfold pairV at h this
      omega
  obtain ⟨v, hv, hp⟩ := h2
  unfold prefB at hp
  simp only [Bool.and_eq_true, decide_eq_true_eq] at hp
  have hk := (hS.2 v hv).1
  have m1 : x ∈ v.1 := by
    by_cases e : x ∈ v.1
    · exact e
    · have := place_in.2 e
      omega
  have m2 : y ∈ v.1 := by
    by_cases e : y ∈ v.1
    · exact e
    · have := place_in.2 e
      omega
  have r1 := rk_mem hk m1
  have r2 := rk_mem hk m2
  omega
set_option maxRecDepth 100000 in
theorem mj_trans {n : Nat} {vs : List Vt} {r : List Int} (hS : SmallV n vs) (hk : rkOk n r = true) (hp : r.Pairwise (fun x y => beatsV vs x y = true)) {x y z : Int} (h1 : beatsV vs x y = true) (h2 : beatsV vs y z = true) : beatsV vs x z = true := by
  have i1 := beats_in hS h1
  have i2 := beats_in hS h2
  obtain ⟨a, rfl⟩ : ∃ a : Nat, x = a := ⟨x.toNat, by omega⟩
  obtain ⟨b, rfl⟩ : ∃ b : Nat, y = b := ⟨y.toNat, by omega⟩
  obtain ⟨c, rfl⟩ : ∃ c : Nat, z = c := ⟨z.toNat, by omega⟩
  have h3 := (pw_place hk hp (a := a) (b := b) (by omega) (by omega)).1 h1
  have h4 := (pw_place hk hp (a := b) (b := c) (by omega) (by omega)).1 h2
  exact (pw_place hk hp (a := a) (b := c) (by omega) (by omega)).2 (by omega)
set_option maxRecDepth 100000 in
theorem mj_tot {n : Nat} {vs : List Vt} {r : List Int} (hk : rkOk n r = true) (hp : r.Pairwise (fun x y => beatsV vs x y = true)) {x y : Int} (hx : 0 ≤ x ∧ x < n) (hy : 0 ≤ y ∧ y < n) (hne : x ≠ y) (h : beatsV vs y x = false) : beatsV vs x y = true := by
  obtain ⟨a, rfl⟩ : ∃ a : Nat, x = a := ⟨x.toNat, by omega⟩
  obtain ⟨b, rfl⟩ : ∃ b : Nat, y = b := ⟨y.toNat, by omega⟩
  obtain ⟨i, _, ei, hi, _⟩ := place_at hk (a := a) (by omega)
  obtain ⟨j, _, ej, hj, _⟩ := place_at hk (a := b) (by omega)
  have hij : i ≠ j := fun e => by
    rw [e, hj] at hi
    injection hi with hi
    exact hne hi.symm
  by_cases hlt : placeI r a < placeI r b
  · exact (pw_place hk hp (a := a) (b := b) (by omega) (by omega)).2 hlt
  · have h2 : bt vs b a = true := (pw_place hk hp (a := b) (b := a) (by omega) (by omega)).2 (by omega)
    unfold bt at h2
    rw [h] at h2
    cases h2
set_option maxRecDepth 100000 in
/-- A ranking in which no neighbours are beaten backwards is the one of the majority, where there is one. -/
theorem mj_same {n : Nat} {vs : List Vt} {r q : List Int} (hk : rkOk n r = true) (hp : r.Pairwise (fun x y => beatsV vs x y = true)) (hq : rkOk n q = true) (h : q.Pairwise (fun x y => beatsV vs x y = true)) : r = q := by
  rw [← mjS_eq hk (mjOk_iff.2 hp), ← mjS_eq hq (mjOk_iff.2 h)]
set_option maxRecDepth 100000 in
theorem mj_nbs {n : Nat} {vs : List Vt} {r q : List Int} (hS : SmallV n vs) (hk : rkOk n r = true) (hp : r.Pairwise (fun x y => beatsV vs x y = true)) (hq : rkOk n q = true) (h : ∀ xs a b ys, q = xs ++ a :: b :: ys → beatsV vs b a = false) : r = q := by
  refine mj_same hk hp hq ?_
  rcases nb_or (R := fun x y => beatsV vs x y = true) (fun a b c h1 h2 => mj_trans hS hk hp h1 h2) q with h1 | ⟨xs, a, b, ys, e, hn⟩
  · exact h1
  · exfalso
    apply hn
    have ma := rk_mem hq (show a ∈ q by rw [e]; simp)
    have mb := rk_mem hq (show b ∈ q by rw [e]; simp)
    have hne : a ≠ b := fun e2 => by
      have hd := rk_nodup hq
      rw [e, e2, List.nodup_append] at hd
      have := hd.2.1
      simp at this
    exact mj_tot hk hp (by omega) (by omega) hne (h xs a b ys e)
set_option maxRecDepth 100000 in
theorem mj_kem {n : Nat} {vs : List Vt} (h0 : profOk n vs = true) (h : mjB n vs = true) : mjL n vs = kemO n vs := by
  obtain ⟨hk, hp⟩ := mj_pair h0 h
  exact mj_nbs (prof_small h0) hk hp (kem_min h0).1 (fun xs a b ys e => kem_nbs h0 e)
set_option maxRecDepth 100000 in
theorem sla_min {n : Nat} {vs : List Vt} (h0 : profOk n vs = true) : rkOk n (slaO n vs) = true ∧ slaW n vs = slaN vs (slaO n vs) ∧ ∀ r, rkOk n r = true → slaN vs (slaO n vs) ≤ slaN vs r := by
  have hsz := prof_size h0
  have h := lst_min (cost := slaN vs) (n := n) (by omega) (by omega)
  have e : slaO n vs = (lstR (slaN vs) n).1 := by unfold slaO lstO; rw [if_pos h0, Int.toNat_natCast]
  have e2 : slaW n vs = (lstR (slaN vs) n).2.1 := by unfold slaW lstO; rw [if_pos h0, if_pos h0, Int.toNat_natCast]
  rw [e, e2]
  exact ⟨h.1, h.2.1, h.2.2.1⟩
set_option maxRecDepth 100000 in
theorem sla_pos {n : Nat} {vs : List Vt} (h0 : profOk n vs = true) : 0 ≤ slaW n vs := by
  rw [(sla_min h0).2.1]
  unfold slaN
  omega
set_option maxRecDepth 100000 in
theorem mj_sla {n : Nat} {vs : List Vt} (h0 : profOk n vs = true) (h : mjB n vs = true) : mjL n vs = slaO n vs ∧ slaW n vs = 0 := by
  obtain ⟨hk, hp⟩ := mj_pair h0 h
  obtain ⟨h1, h2, h3⟩ := sla_min h0
  have h4 := h3 _ hk
  have h5 : slaN vs (mjL n vs) = 0 := by
    unfold slaN
    rw [(bkI_zero (q := fun y x => beatsV vs y x)).2 (hp.imp (fun {x y} hb => beatsV_anti hb))]; rfl
  have h6 : slaN vs (slaO n vs) = 0 := by
    have : 0 ≤ slaN vs (slaO n vs) := by unfold slaN; omega
    omega
  refine ⟨?_, by rw [h2, h6]⟩
  refine mj_nbs (prof_small h0) hk hp h1 (fun xs a b ys e => ?_)
  have h7 : bkI (fun y x => beatsV vs y x) (slaO n vs) = 0 := by unfold slaN at h6; omega
  have h8 := bkI_zero.1 h7
  rw [e, List.pairwise_append] at h8
  exact (List.pairwise_cons.1 h8.2.1).1 b (by simp)
set_option maxRecDepth 100000 in
theorem mj_prk {n : Nat} {vs : List Vt} (h0 : profOk n vs = true) (h : mjB n vs = true) : mjL n vs = prkO n vs := by
  obtain ⟨hk, hp⟩ := mj_pair h0 h
  have hS := prof_small h0
  have hsz := prof_size h0
  have hr := lok_ranked h0
  rw [prk_eq h0]
  refine mj_nbs hS hk hp (prL_rk (by omega) (by omega) hr) (fun xs a b ys e => ?_)
  have hq := prL_rk (n := n) (by omega) (by omega) hr
  cases hb : beatsV vs b a
  · rfl
  · exfalso
    have hi := beats_in hS hb
    obtain ⟨i, rfl⟩ : ∃ i : Nat, b = i := ⟨b.toNat, by omega⟩
    obtain ⟨j, rfl⟩ : ∃ j : Nat, a = j := ⟨a.toNat, by omega⟩
    have hm : [(i : Int), (j : Int)] ∈ lokO n vs := by
      rw [lok_eq h0]
      rcases lock_or (x := [(i : Int), (j : Int)]) (sortD_mem.2 (prAll_has (n := n) (a := i) (b := j) (by omega) hb n (by omega))) with h1 | ⟨kept, hkp, hrc⟩
      · exact h1
      · exfalso
        have h2 : ∀ {x y : Int}, ReachL kept x y → x = y ∨ beatsV vs x y = true := by
          intro x y hxy
          induction hxy with
          | refl a => exact .inl rfl
          | step z hz _ ih =>
            have h3 := (srtP_mem (hkp z hz)).2
            rcases ih with ih | ih
            · rw [ih] at h3; exact .inr h3
            · exact .inr (mj_trans hS hk hp h3 ih)
        rcases h2 hrc with h3 | h3
        · have h4 : (j : Int) = i := h3
          rw [h4, beatsV_self] at hb
          cases hb
        · have h4 : beatsV vs j i = true := h3
          rw [beatsV_anti hb] at h4
          cases h4
    have h5 := prk_keeps (n := n) (by omega) (by omega) hr (a := i) (b := j) (by omega) (by omega) hm
    have hat1 : (prL (lokO n vs) n n)[xs.length]? = some (j : Int) := by rw [e]; simp
    have hat2 : (prL (lokO n vs) n n)[xs.length + 1]? = some (i : Int) := by rw [e]; simp
    rw [pref_of hq (a := i) (b := j) (by omega) (by omega) hat2 hat1, decide_eq_true_eq] at h5
    omega
set_option maxRecDepth 100000 in
/-- Two orders that are against each other in all pairs. -/
theorem bkI_compl {q q' : Int → Int → Bool} : ∀ {xs : List Int}, xs.Nodup → (∀ x ∈ xs, ∀ y ∈ xs, x ≠ y → q y x = !q' y x) → 2 * (bkI q xs + bkI q' xs) = xs.length * (xs.length - 1)
  | [], _, _ => rfl
  | x :: xs, hd, h => by
    rw [List.nodup_cons] at hd
    have ih := bkI_compl (xs := xs) hd.2 (fun a ha b hb => h a (by simp [ha]) b (by simp [hb]))
    have h1 : xs.countP (fun y => q y x) + xs.countP (fun y => q' y x) = xs.length := by
      have : ∀ ys : List Int, (∀ y ∈ ys, q y x = !q' y x) → ys.countP (fun y => q y x) + ys.countP (fun y => q' y x) = ys.length := by
        intro ys
        induction ys with
        | nil => intro _; rfl
        | cons y ys ih2 =>
          intro hy
          have h2 := hy y (by simp)
          have h3 := ih2 (fun z hz => hy z (by simp [hz]))
          rw [List.countP_cons, List.countP_cons, List.length_cons, h2]
          cases q' y x <;> simp <;> omega
      exact this xs (fun y hy => h x (by simp) y (by simp [hy]) (fun e => hd.1 (e ▸ hy)))
    rw [bkI, bkI, List.length_cons]
    obtain ⟨m, hm⟩ : ∃ m, m = xs.length := ⟨_, rfl⟩
    rw [← hm] at h1 ih ⊢
    have e : (m + 1) * (m + 1 - 1) = 2 * m + m * (m - 1) := by
      cases m with
      | zero => rfl
      | succ k =>
        show (k + 1 + 1) * (k + 1) = 2 * (k + 1) + (k + 1) * k
        rw [Nat.add_mul, Nat.mul_add, Nat.mul_comm (k + 1) k]
        omega
    omega
set_option maxRecDepth 100000 in
theorem pref_rev {n : Nat} {r : List Int} (h : rkOk n r = true) {x y : Int} (hx : x ∈ r) (hy : y ∈ r) : prefB r.reverse x y = prefB r y x := by
  have hr : rkOk n r.reverse = true := rk_perm_ok (List.reverse_perm r) h
  have mx := rk_mem h hx
  have my := rk_mem h hy
  have hl := (rk_len h).1
  obtain ⟨a, rfl⟩ : ∃ a : Nat, x = a := ⟨x.toNat, by omega⟩
  obtain ⟨b, rfl⟩ : ∃ b : Nat, y = b := ⟨y.toNat, by omega⟩
  obtain ⟨i, hin, _, hi, _⟩ := place_at h (a := a) (by omega)
  obtain ⟨j, hjn, _, hj, _⟩ := place_at h (a := b) (by omega)
  have ra : r.reverse[n - 1 - i]? = some (a : Int) := by
    rw [List.getElem?_reverse (by omega), show r.length - 1 - (n - 1 - i) = i by omega, hi]
  have rb : r.reverse[n - 1 - j]? = some (b : Int) := by
    rw [List.getElem?_reverse (by omega), show r.length - 1 - (n - 1 - j) = j by omega, hj]
  rw [pref_of hr (by omega) (by omega) ra rb, pref_of h (by omega) (by omega) hj hi, decide_eq_decide]
  omega
set_option maxRecDepth 100000 in
theorem kem_rev {n : Nat} {r : List Int} (h : rkOk n r = true) : ∀ {vs : List Vt}, SmallV n vs → 2 * (kemV vs r + kemV vs r.reverse) = (n : Int) * ((n : Int) - 1) * allV vs
  | [], _ => by
    have : allV [] = 0 := rfl
    rw [this, Int.mul_zero]; rfl
  | x :: vs, hS => by
    have ih := kem_rev h hS.tail
    have e : ∀ r, kemV (x :: vs) r = x.2 * (swapN x.1 r : Int) + kemV vs r := fun r => by simp [kemV]
    have hx := hS.head.1
    have hl := (rk_len hx).1
    have hn := (rk_len h).1
    have h1 : 2 * (swapN x.1 r + swapN x.1 r.reverse) = x.1.length * (x.1.length - 1) := by
      refine bkI_compl (rk_nodup hx) (fun a ha b hb hne => ?_)
      have ma := rk_mem hx ha
      have mb := rk_mem hx hb
      obtain ⟨i, rfl⟩ : ∃ i : Nat, a = i := ⟨a.toNat, by omega⟩
      obtain ⟨j, rfl⟩ : ∃ j : Nat, b = j := ⟨b.toNat, by omega⟩
      rw [pref_rev h (rk_all h (by omega)) (rk_all h (by omega))]
      exact pref_tot h (by omega) (by omega) (fun e => hne (by omega))
    have hln : x.1.length = n := by omega
    rw [hln] at h1
    have h2 : 2 * ((swapN x.1 r : Int) + (swapN x.1 r.reverse : Int)) = (n : Int) * ((n : Int) - 1) := by
      have n1 : 1 ≤ n := by
        have := hS.head.1
        simp only [rkOk, Bool.and_eq_true] at this
        have := inR_iff.1 this.1
        omega
      have e2 : ((n * (n - 1) : Nat) : Int) = (n : Int) * ((n : Int) - 1) := by
        rw [Int.natCast_mul]
        congr 1
        omega
      rw [← e2, ← h1]
      omega
    rw [e, e, allV_cons]
    generalize (swapN x.1 r : Int) = A at h2 ⊢
    generalize (swapN x.1 r.reverse : Int) = B at h2 ⊢
    rw [Int.mul_add ((n : Int) * ((n : Int) - 1)) x.2 (allV vs), ← ih, ← h2]
    have e3 : 2 * (A + B) * x.2 = 2 * (x.2 * A + x.2 * B) := by rw [Int.mul_assoc, Int.add_mul, Int.mul_comm A, Int.mul_comm B]
    rw [e3]
    omega

def rouV (n : Nat) (vs : List Vt) (out : List Int) (i : Nat) : Int := if hasI out (i : Int) then -1 else worF vs (leftL n out) i
def rouOk (n : Nat) (out : List Int) : Bool := out.all (hasB n) && !decide (leftL n out = [])
def rouO (sz : Int) (vs : List Vt) (out : List Int) : List Int := if profOk sz vs && rouOk sz.toNat out then rowL sz.toNat (rouV sz.toNat vs out) else []
set_option maxRecDepth 100000 in
theorem rouO_len (sz : Int) (vs : List Vt) (out : List Int) : (rouO sz vs out).length ≤ 5 := by
  unfold rouO
  cases h0 : profOk sz vs
  · simp
  · obtain ⟨n, rfl, n1, n2⟩ := prof_nat h0
    split
    · simp [rowL_len]; omega
    · simp
set_option maxRecDepth 100000 in
theorem left_len (n : Nat) (q : Nat → Bool) : (upL n q = []) ↔ (upL n q).length = 0 := List.length_eq_zero_iff.symm

set_option maxRecDepth 100000 in
/-- A candidate of the majority, or none. -/
theorem maj_cases {n : Nat} {vs : List Vt} (h0 : profOk n vs = true) : (∃ a : Nat, a < n ∧ majO n vs = a ∧ allV vs < 2 * fstV vs a) ∨ majO n vs = -1 := by
  have e : majO n vs = findI (fun x => decide (allV vs < 2 * x)) (rowL n (fstV vs)) := by unfold majO; rw [if_pos h0, Int.toNat_natCast]
  rw [e]
  unfold findI
  cases h : (rowL n (fstV vs)).findIdx? (fun x => decide (allV vs < 2 * x)) with
  | none => exact .inr rfl
  | some k =>
    rw [List.findIdx?_eq_some_iff_getElem] at h
    obtain ⟨h1, h2, _⟩ := h
    rw [rowL_len] at h1
    have h3 : (rowL n (fstV vs))[k]? = some (fstV vs k) := rowL_at h1
    rw [List.getElem?_eq_getElem (by rw [rowL_len]; exact h1)] at h3
    injection h3 with h3
    rw [h3] at h2
    exact .inl ⟨k, h1, rfl, by simpa using h2⟩
set_option maxRecDepth 100000 in
theorem fst_pair {n : Nat} {vs : List Vt} (hS : SmallV n vs) {a b : Nat} (ha : a < n) (hb : b < n) (hne : b ≠ a) : fstV vs a ≤ pairV vs a b := by
  unfold fstV plcV pairV
  refine sumV_mono hS (fun x hx h => ?_)
  have hx0 : x.1[0]? = some (a : Int) := by unfold plcP at h; simpa using h
  obtain ⟨i, _, ei, _, hu⟩ := place_at (hS.2 x hx).1 ha
  obtain ⟨j, _, ej, hj, _⟩ := place_at (hS.2 x hx).1 hb
  have h1 := hu 0 hx0
  have h2 : j ≠ 0 := fun e => by
    rw [e, hx0] at hj
    injection hj with hj
    omega
  unfold prefB
  rw [ei, ej]
  simp only [Bool.and_eq_true, decide_eq_true_eq]
  omega
set_option maxRecDepth 100000 in
/-- Who is first for more than half beats all others. -/
theorem maj_beats {n : Nat} {vs : List Vt} (hS : SmallV n vs) {a : Nat} (ha : a < n) (hm : allV vs < 2 * fstV vs a) : ∀ j, j < n → j ≠ a → bt vs a j = true := fun j hj hne => by
  have h1 := fst_pair hS ha hj hne
  have h2 := pair_tot ha hj (fun e => hne e.symm) hS
  unfold bt beatsV
  rw [decide_eq_true_eq]
  omega
set_option maxRecDepth 100000 in
theorem maj_win {n : Nat} {vs : List Vt} (h0 : profOk n vs = true) {a : Nat} (ha : a < n) (hm : allV vs < 2 * fstV vs a) : winnerO n vs = a := by
  have hb := maj_beats (prof_small h0) ha hm
  rcases win_cases h0 with ⟨w, hw, e, hw2⟩ | ⟨_, h⟩
  · by_cases e2 : w = a
    · rw [e, e2]
    · have h1 := hb w hw e2
      rw [bt_anti vs _ _ (hw2 a ha (fun e => e2 e.symm))] at h1
      cases h1
  · exact absurd hb (h a ha)
set_option maxRecDepth 100000 in
theorem fst_all {n : Nat} {vs : List Vt} (hS : SmallV n vs) {a b : Nat} (ha : a < n) (hb : b < n) (hne : b ≠ a) : fstV vs a + fstV vs b ≤ allV vs := by
  have h1 := fst_pair hS ha hb hne
  have h2 := fst_pair hS hb ha (fun e => hne e.symm)
  have h3 := pair_tot ha hb (fun e => hne e.symm) hS
  omega
set_option maxRecDepth 100000 in
theorem wth_one {n : Nat} {vs : List Vt} (hS : SmallV n vs) {a : Nat} (ha : a < n) : wthV vs 1 a = fstV vs a := by
  have := wth_sum hS ha 1
  simp only [sumN, Int.zero_add] at this
  exact this.symm
set_option maxRecDepth 100000 in
theorem best_sole {n : Nat} {f : Nat → Int} {a : Nat} (ha : a < n) (h : ∀ j, j < n → j ≠ a → f j < f a) : bestL (rowL n f) = [(a : Int)] := by
  have hl := rowL_len n f
  have hmx : maxL (rowL n f) = f a := by
    have h1 := maxL_ge (List.mem_of_getElem? (rowL_at (f := f) ha))
    have h2 := maxL_mem (xs := rowL n f) (fun e => by rw [e] at hl; simp at hl; omega)
    obtain ⟨i, hi⟩ := List.mem_iff_getElem?.1 h2
    obtain ⟨hin, e⟩ := rowL_val hi
    by_cases e2 : i = a
    · rw [e, e2]
    · have := h i hin e2
      omega
  unfold bestL
  rw [hl, hmx]
  refine upL_one ha ?_ (fun j hj hq => ?_)
  · unfold isMax; rw [rowL_at ha]; simp
  · unfold isMax at hq
    rw [rowL_at hj, decide_eq_true_eq] at hq
    injection hq with hq
    by_cases e : j = a
    · exact e
    · have := h j hj e
      omega
set_option maxRecDepth 100000 in
theorem fst_scoV {n : Nat} {vs : List Vt} (hS : SmallV n vs) {a : Nat} (ha : a < n) : scoV pluW vs a = fstV vs a := plc_sco ha hS
set_option maxRecDepth 100000 in
theorem maj_lev {n : Nat} {vs : List Vt} (hS : SmallV n vs) {a : Nat} (ha : a < n) (hm : allV vs < 2 * fstV vs a) : levV n vs = 1 := by
  refine levV_at (j := 0) (by omega) (fun i hi => by omega) (allN_f ha ?_)
  unfold bukA
  rw [wth_one hS ha]
  simp; omega
set_option maxRecDepth 100000 in
theorem maj_buk {n : Nat} {vs : List Vt} (h0 : profOk n vs = true) {a : Nat} (ha : a < n) (hm : allV vs < 2 * fstV vs a) : bukO n vs = a := by
  have hS := prof_small h0
  unfold bukO
  rw [if_pos h0, Int.toNat_natCast, maj_lev hS ha hm, best_sole ha (fun j hj hne => ?_)]
  · rfl
  · rw [wth_one hS hj, wth_one hS ha]
    have := fst_all hS ha hj hne
    omega
set_option maxRecDepth 100000 in
theorem maj_run {n : Nat} {vs : List Vt} (h0 : profOk n vs = true) {a : Nat} (ha : a < n) (hm : allV vs < 2 * fstV vs a) : runO n vs = a := by
  have hS := prof_small h0
  by_cases hn : n = 1
  · rw [run_one h0 hn]; omega
  · have hl := srk_len (scoV pluW vs) n
    obtain ⟨x, hx⟩ := at_of_lt (xs := srk (scoV pluW vs) n) (k := 0) (by omega)
    obtain ⟨y, hy⟩ := at_of_lt (xs := srk (scoV pluW vs) n) (k := 1) (by omega)
    rw [run_two h0 hn hx hy]
    have h1 := best_srk (scoV pluW vs) (n := n) (by omega)
    rw [best_sole ha (fun j hj hne => by
      rw [fst_scoV hS hj, fst_scoV hS ha]
      have := fst_all hS ha hj hne
      omega), List.head?_eq_getElem?, List.head?_eq_getElem?, hx] at h1
    have hxa : x = a := by simpa using h1.symm
    subst hxa
    obtain ⟨j, hj, rfl⟩ := srk_mem (List.mem_of_getElem? hy)
    have hja : j ≠ a := fun e => by
      subst e
      have := nodup_inj (srk_nodup (scoV pluW vs) n) hx hy
      omega
    have hb := maj_beats hS ha hm j hj hja
    have hb2 := bt_anti vs _ _ hb
    unfold bt at hb hb2
    by_cases hlt : (a : Int) < j
    · rw [show max (a : Int) j = j by omega, show min (a : Int) j = a by omega, hb2]; rfl
    · rw [show max (a : Int) j = a by omega, show min (a : Int) j = j by omega, hb]; rfl
structure MajF (n : Nat) (vs : List Vt) (a : Nat) : Prop where
  lt : a < n
  inst : lastI (elimO n vs (worF vs)) = a
  run : runO n vs = a
  buk : bukO n vs = a
  lev : levO n vs = 1
  win : winnerO n vs = a
set_option maxRecDepth 100000 in
theorem maj_f {n : Nat} {vs : List Vt} (h0 : profOk n vs = true) {a : Nat} (ha : a < n) (hm : allV vs < 2 * fstV vs a) : MajF n vs a := by
  have hS := prof_small h0
  refine ⟨ha, ?_, maj_run h0 ha hm, maj_buk h0 ha hm, ?_, maj_win h0 ha hm⟩
  · rw [elimO_eq h0]; exact maj_inst hS ha hm
  · unfold levO; rw [if_pos h0, Int.toNat_natCast, maj_lev hS ha hm]; rfl

set_option maxRecDepth 100000 in
/-- The levels of all candidates add up to the places. -/
theorem wth_all {n : Nat} {k : Nat} (hk : k ≤ n) : ∀ {vs : List Vt}, SmallV n vs → sgN (wthV vs k) n = k * allV vs
  | [], _ => by
    have e : sgN (wthV [] k) n = sgN (fun _ => 0) n := sgN_congr (fun i _ => rfl)
    rw [e, sgN_zero]
    show (0 : Int) = k * 0
    omega
  | x :: vs, h => by
    have ih := wth_all hk h.tail
    have e : sgN (wthV (x :: vs) k) n = sgN (fun a => x.2 * (fun j => if j < k then (1 : Int) else 0) (placeI x.1 a).toNat) n + sgN (wthV vs k) n := by
      rw [← sgN_add]
      refine sgN_congr (fun a ha => ?_)
      obtain ⟨i, _, ei, _, _⟩ := place_at h.head.1 ha
      unfold wthV
      rw [sumV_cons]
      unfold wthP
      rw [ei, Int.toNat_natCast]
      by_cases hik : i < k
      · simp [hik]
      · have : ¬ (i : Int) < k := by omega
        simp [hik]
    have h1 : ∀ m, sgN (fun j => if j < k then (1 : Int) else 0) m = if m ≤ k then (m : Int) else k := by
      intro m
      induction m with
      | zero => simp [sgN]
      | succ m ih =>
        rw [sgN, ih]
        by_cases h2 : m < k
        · rw [if_pos (by omega), if_pos h2, if_pos (by omega)]; omega
        · by_cases h3 : m = k
          · subst h3
            rw [if_pos (Nat.le_refl _), if_neg (by omega), if_neg (by omega)]; omega
          · rw [if_neg (by omega), if_neg h2, if_neg (by omega)]; omega
    rw [e, sgN_mul, place_sum h.head.1 (fun j => if j < k then (1 : Int) else 0), h1, ih, allV_cons]
    by_cases h2 : n = k
    · subst h2
      rw [if_pos (Nat.le_refl _), Int.mul_add, Int.mul_comm]
    · rw [if_neg (by omega), Int.mul_add, Int.mul_comm]
set_option maxRecDepth 100000 in
theorem lev_half {n : Nat} {vs : List Vt} (h0 : profOk n vs = true) (hv : 1 ≤ vs.length) : 1 ≤ levV n vs ∧ 2 * levV n vs ≤ n + 2 := by
  have hS := prof_small h0
  have hsz := prof_size h0
  have hV := allV_pos1 hS hv
  unfold levV
  cases e : (List.range n).find? (fun j => !bukN n vs (j + 1)) with
  | none =>
    exfalso
    rw [List.find?_range_eq_none] at e
    have h1 := e (n - 1) (by omega)
    have h2 := buk_end hS (by omega) (fun e => by rw [e] at hv; simp at hv)
    rw [show n - 1 + 1 = n by omega, h2] at h1
    simp at h1
  | some j =>
    rw [List.find?_range_eq_some] at e
    obtain ⟨_, hj, hno⟩ := e
    have hj := List.mem_range.1 hj
    refine ⟨by simp, ?_⟩
    by_cases hj0 : j = 0
    · subst hj0; simp
    · have h1 := hno (j - 1) (by omega)
      rw [show j - 1 + 1 = j by omega] at h1
      have h1 : bukN n vs j = true := by simpa using h1
      have h2 := wth_all (k := j) (by omega) hS
      have h3 : 2 * sgN (wthV vs j) n ≤ sgN (fun _ => allV vs) n := by
        rw [← sgN_mul]
        refine sgN_le (fun i hi => ?_)
        have := allN_at h1 hi
        unfold bukA at this
        simp at this
        omega
      rw [h2, sgN_const] at h3
      have h4 : (2 * (j : Int)) * allV vs ≤ (n : Int) * allV vs := by rw [Int.mul_assoc]; exact h3
      have h5 := Int.le_of_mul_le_mul_right h4 (by omega)
      simp
      omega
set_option maxRecDepth 100000 in
theorem buk_lt {n : Nat} {vs : List Vt} (h0 : profOk n vs = true) : ∃ a : Nat, a < n ∧ bukO n vs = a := by
  have hsz := prof_size h0
  unfold bukO
  rw [if_pos h0, Int.toNat_natCast]
  obtain ⟨a, ha, r, e⟩ := best_head (f := wthV vs (levV n vs)) (n := n) (by omega)
  exact ⟨a, ha, by rw [e]; rfl⟩

/-- The counts of a round. -/
structure RouF (n : Nat) (vs : List Vt) (k : Nat) : Prop where
  val : rouO n vs (elimL n (worF vs) k) = rowL n (rouV n vs (elimL n (worF vs) k))
  sum : sgN (rouV n vs (elimL n (worF vs) k)) n + k = allV vs
  pick : ∃ p : Nat, p < n ∧ (elimL n (worF vs) n)[k]? = some (p : Int) ∧ ∀ x : Nat, x < n → (x : Int) ∉ elimL n (worF vs) k → rouV n vs (elimL n (worF vs) k) p < rouV n vs (elimL n (worF vs) k) x ∨ (rouV n vs (elimL n (worF vs) k) p = rouV n vs (elimL n (worF vs) k) x ∧ x ≤ p)
set_option maxRecDepth 100000 in
theorem rou_in {n : Nat} {vs : List Vt} {out : List Int} {x : Nat} (h : (x : Int) ∉ out) : rouV n vs out x = worF vs (leftL n out) x := by
  unfold rouV
  rw [if_neg (fun e => h (hasI_iff.1 e))]
set_option maxRecDepth 100000 in
theorem rou_gone {n : Nat} (out : List Int) : sgN (fun i => if notIn out i then (0 : Int) else 1) n + (leftL n out).length = n := by
  unfold leftL
  induction n with
  | zero => simp [sgN, upL]
  | succ n ih =>
    rw [sgN, upL_succ, List.length_append]
    cases notIn out n <;> simp <;> omega
set_option maxRecDepth 100000 in
theorem rou_f {n : Nat} {vs : List Vt} (h0 : profOk n vs = true) {k : Nat} (hk : k < n) : RouF n vs k := by
  have hS := prof_small h0
  have hsz := prof_size h0
  have hl := leftL_elim (n := n) (worF vs) k (by omega)
  have hne : leftL n (elimL n (worF vs) k) ≠ [] := fun e => by rw [e] at hl; simp at hl; omega
  have hpk := elim_pick (n := n) (worF vs) hk
  have hat := elim_at (n := n) (worF vs) hk
  have hrk := elim_rk (n := n) (by omega) (by omega) (worF vs)
  refine ⟨?_, ?_, ?_⟩
  · unfold rouO
    rw [h0, Int.toNat_natCast, Bool.true_and, if_pos]
    unfold rouOk
    rw [Bool.and_eq_true, List.all_eq_true]
    refine ⟨fun x hx => ?_, by simp [hne]⟩
    have hm : x ∈ elimL n (worF vs) n := by
      rw [← elim_take (worF vs) n k (by omega)] at hx
      exact List.mem_of_mem_take hx
    have := rk_mem hrk hm
    exact inR_iff.2 (by omega)
  · generalize elimL n (worF vs) k = out at hl hne
    have h1 : sgN (fun i => if notIn out i then worF vs (leftL n out) i else 0) n = allV vs := first_sum (n := n) (q := notIn out) hne hS
    have h2 := rou_gone (n := n) out
    have e : sgN (rouV n vs out) n = sgN (fun i => if notIn out i then worF vs (leftL n out) i else 0) n - sgN (fun i => if notIn out i then (0 : Int) else 1) n := by
      have : ∀ m, sgN (rouV n vs out) m = sgN (fun i => if notIn out i then worF vs (leftL n out) i else 0) m - sgN (fun i => if notIn out i then (0 : Int) else 1) m := by
        intro m
        induction m with
        | zero => rfl
        | succ m ih =>
          rw [sgN, sgN, sgN, ih]
          unfold rouV notIn
          cases hasI out (m : Int) <;> simp <;> omega
      exact this n
    rw [e, h1]
    omega
  · obtain ⟨p, hp, hpn, ep⟩ := leftL_mem.1 hpk
    rw [ep] at hat
    refine ⟨p, hp, hat, fun x hx hxn => ?_⟩
    have h1 := pickV_least (f := worF vs (leftL n (elimL n (worF vs) k))) (fun x hx => leftL_pos hx) (leftL_up n _) x (leftL_mem.2 ⟨x, hx, hxn, rfl⟩)
    rw [ep] at h1
    rw [rou_in hpn, rou_in hxn]
    omega
set_option maxRecDepth 100000 in
theorem rou_end {n : Nat} {vs : List Vt} (h0 : profOk n vs = true) : rouO n vs (elimL n (worF vs) n) = [] := by
  have hl := leftL_elim (n := n) (worF vs) n (Nat.le_refl _)
  have he : leftL n (elimL n (worF vs) n) = [] := List.length_eq_zero_iff.1 (by omega)
  unfold rouO
  rw [h0, Int.toNat_natCast]
  unfold rouOk
  rw [he]
  simp

set_option maxRecDepth 100000 in
set_option maxHeartbeats 1000000 in
theorem indexFuncR (K : Nat) (fst cap : Array Value) (p : List Int → Bool) (w : World) (B : Nat) (a : Option Addr) (c : Nat) (xss : List (List Int)) (hR : RdSS w B (.slice a xss.length c) xss) (hl : xss.length ≤ 2000000) (hK : Enters Tryz.prog K)
    (hf : ∀ (xs : List Int) (a' : Option Addr) (c' : Nat) (w' : World), xs ∈ xss → RdI w' a' xs → Ext w w' → Calls Tryz.prog K (fst.push (.slice a' xs.length c') ++ cap) w' fun e w'' => e = .returned (.bool (p xs)) ∧ Ext w' w'') :
    Calls Tryz.prog 122 #[.slice a xss.length c, .func (.func K) fst cap] w fun e w' => e = .returned (.int .i64 (findI p xss)) ∧ Ext w w' := by
  unfold Enters at hK
  have HF := hide hf
  clear hf
  go_enter Tryz.func122, Tryz.ntmps122
  go_wp2_with fail
  go_loopw [5, 8] (fun _ i wr => ∃ k : Nat, k ≤ xss.length ∧ i = .int .i64 k ∧ Hid ((xss.take k).all (fun x => !p x) = true) ∧ Ext w wr) (fun _ i _ => xss.length - (intOf i).toNat)
  case atStart => exact ⟨0, Nat.zero_le _, rfl, rfl, Ext.refl _⟩
  case round =>
    obtain ⟨k, hk, rfl, hall, hwr⟩ := hrel
    by_cases hlt : k < xss.length
    · obtain ⟨x, hx⟩ := at_of_lt hlt
      obtain ⟨b, off, a', c', rfl, c0, hRx⟩ := (hR.ext hwr).at_ hx
      have HX := hide hx
      clear hx
      cases hp : p x
      all_goals
        go_wp2_with fail
        refine (HF.out x a' c' wr (List.mem_of_getElem? HX.out) hRx hwr).mono ?_
        rintro e w1 ⟨rfl, hw1⟩
        go_wp2
      · exact ⟨⟨k + 1, by omega, by go_num, (all_take HX.out hall.out).trans (by simp [hp]), hwr.trans hw1⟩, by simp [intOf]; omega⟩
      · go_ret
        exact ⟨ret_int (findI_some HX.out hall.out hp).symm, hwr.trans hw1⟩
    · go_wp2
      go_ret
      exact ⟨ret_int (findI_none (all_whole (by omega) hall.out)).symm, hwr⟩

set_option maxRecDepth 100000 in
set_option maxHeartbeats 1000000 in
theorem containsFuncR (K : Nat) (fst cap : Array Value) (p : List Int → Bool) (w : World) (B : Nat) (a : Option Addr) (c : Nat) (xss : List (List Int)) (hR : RdSS w B (.slice a xss.length c) xss) (hl : xss.length ≤ 2000000) (hK : Enters Tryz.prog K)
    (hf : ∀ (xs : List Int) (a' : Option Addr) (c' : Nat) (w' : World), xs ∈ xss → RdI w' a' xs → Ext w w' → Calls Tryz.prog K (fst.push (.slice a' xs.length c') ++ cap) w' fun e w'' => e = .returned (.bool (p xs)) ∧ Ext w' w'') :
    Calls Tryz.prog 94 #[.slice a xss.length c, .func (.func K) fst cap] w fun e w' => e = .returned (.bool (xss.any p)) ∧ Ext w w' := by
  have H := hide (indexFuncR K fst cap p w B a c xss hR hl hK hf)
  clear hf
  go_enter Tryz.func94, Tryz.ntmps94
  go_wp2_with fail
  refine H.out.mono ?_
  rintro e w1 ⟨rfl, hw1⟩
  go_wp2
  go_ret
  exact ⟨ret_bool (findI_nonneg p xss), hw1⟩

set_option maxRecDepth 100000 in
set_option maxHeartbeats 4000000 in
theorem stabR_impl (K : Nat) (fst cap : Array Value) (key : RowE → Int) (d : RowE → RowE → Int) (w : World) (g n c : Nat) (ys : List RowE) (hn : ys.length = n) (hn2 : n ≤ 19) (hB : BlkF w g n (memF rowV ys)) (hK : Enters Tryz.prog K)
    (hd : ∀ x y, d x y < 0 ↔ key y < key x)
    (hf : ∀ (x y : RowE) (w' : World), x ∈ ys → y ∈ ys → Only g w w' → Calls Tryz.prog K (fst ++ (#[.slice x.a x.n x.c, .slice y.a y.n y.c] ++ cap)) w' fun e w'' => e = .returned (.int .i64 (d x y)) ∧ Ext w' w'') :
    Calls Tryz.prog 119 #[.slice (some ⟨g, 0, none⟩) n c, .func (.func K) fst cap] w fun e w' => e = .returned (.tuple #[]) ∧ BlkF w' g n (memF rowV (sortD key ys)) ∧ Only g w w' := by
  have HI := hide (insR_impl K fst cap key d w g n c ys hn (by omega) hB hK hd hf)
  have i1 : ¬ (20 : Int) ≤ (n : Int) := by omega
  have i2 : ¬ (20 : Int) < (n : Int) := by omega
  clear hd hf hB hn
  have HS : Hid (Calls Tryz.prog 134 #[.slice (some ⟨g, 0, none⟩) n c, .int .i64 n, .func (.func K) fst cap] w fun e w' => e = .returned (.tuple #[]) ∧ BlkF w' g n (memF rowV (sortD key ys)) ∧ Only g w w') := by
    go_enter Tryz.func134, Tryz.ntmps134
    go_wp2_with fail
    go_loopw [7, 8] (fun a b wr => a = .int .i64 0 ∧ b = .int .i64 20 ∧ wr = w) (fun _ _ _ => 0)
    case atStart => exact ⟨rfl, rfl, rfl⟩
    case round =>
      obtain ⟨rfl, rfl, rfl⟩ := hrel
      go_wp2_with fail
      refine HI.out.mono ?_
      rintro e w1 ⟨rfl, hB1, hO1⟩
      obtain ⟨wb, hwb⟩ : ∃ wb : World, wb = wr := ⟨_, rfl⟩
      subst hwb
      go_wp2_with fail
      go_loopw [6, 7, 8, 9] (fun s _ _ _ wq => s = .int .i64 20 ∧ wq = w1) (fun _ _ _ _ _ => 0)
      case atStart => exact ⟨rfl, rfl⟩
      case round =>
        obtain ⟨rfl, rfl⟩ := hrel
        go_wp2
        go_end0
        exact ⟨rfl, hB1, hO1⟩
  go_enter Tryz.func119, Tryz.ntmps119
  go_wp2_with fail
  refine HS.out.mono ?_
  rintro e w1 ⟨rfl, hB1, hO1⟩
  go_wp2
  go_end0
  exact ⟨rfl, hB1, hO1⟩

end Go.Proofs.YtfmeklgdaabooaaGreatDoor
