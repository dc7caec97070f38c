/- What holds of the top cycle (plain law). Who is never eliminated (plain law). Counts as sums (plain law). Neighbours of a ranking change places: what that does to its costs (plain law). Transitivity of the beats relation. What FnPairs says of a profile (plain law). -/
import Derived.Test.YtfmeklgdaabooaaGreatDoorCn16
import Derived.Test.YtfmeklgdaabooaaGreatDoorCn9
import Derived.Test.YtfmeklgdaabooaaGreatDoorCn14
import Derived.Test.YtfmeklgdaabooaaGreatDoorCn13
import Derived.Test.YtfmeklgdaabooaaGreatDoorCn11
import Derived.Test.YtfmeklgdaabooaaGreatDoorCn15
import Derived.Test.YtfmeklgdaabooaaGreatDoorCn5
import Derived.Test.YtfmeklgdaabooaaGreatDoorCn12
namespace Go.Proofs.YtfmeklgdaabooaaGreatDoor
open Go.RowKit

set_option maxRecDepth 100000 in
theorem top_least {n : Nat} (n1 : 1 ≤ n) (n5 : n ≤ 5) (vs : List Vt) : ∀ K, K ≤ 2 ^ n - 1 → ∃ s : Nat, 1 ≤ s ∧ s ≤ 2 ^ n - 1 ∧ topI n vs K = s ∧ restA n vs (s : Int) = true ∧ ∀ k : Nat, 1 ≤ k → k ≤ K → restA n vs (k : Int) = true → cntTo (s : Int) 6 ≤ cntTo (k : Int) 6
  | 0, _ => by
    have : 2 ^ 1 ≤ 2 ^ n := Nat.pow_le_pow_right (by decide) n1
    exact ⟨2 ^ n - 1, by omega, Nat.le_refl _, rfl, rest_full n5 vs, fun k h1 h2 => by omega⟩
  | K + 1, hK => by
    obtain ⟨s, h1, h2, h3, h4, h5⟩ := top_least n1 n5 vs K (by omega)
    unfold topI
    rw [h3]
    by_cases hc : cntTo ((K + 1 : Nat) : Int) 6 < cntTo (s : Int) 6 ∧ restA n vs ((K + 1 : Nat) : Int) = true
    · rw [if_pos hc]
      refine ⟨K + 1, by omega, hK, rfl, hc.2, fun k k1 k2 k3 => ?_⟩
      by_cases e : k = K + 1
      · subst e; exact Int.le_refl _
      · have := h5 k k1 (by omega) k3
        omega
    · rw [if_neg hc]
      refine ⟨s, h1, h2, rfl, h4, fun k k1 k2 k3 => ?_⟩
      by_cases e : k = K + 1
      · subst e
        by_cases hlt : cntTo ((K + 1 : Nat) : Int) 6 < cntTo (s : Int) 6
        · exact absurd ⟨hlt, k3⟩ hc
        · omega
      · exact h5 k k1 (by omega) k3
set_option maxRecDepth 100000 in
theorem bit_two (w k : Nat) : bitAt ((2 ^ w : Nat) : Int) k = decide (w = k) := by
  unfold bitAt
  rw [Int.toNat_natCast, Nat.testBit_two_pow]
set_option maxRecDepth 100000 in
theorem cnt_two : ∀ w : Nat, w < 5 → cntTo ((2 ^ w : Nat) : Int) 6 = 1 := by decide +kernel
/-- A set that beats the rest, and none of these is smaller. -/
structure TopF (n : Nat) (vs : List Vt) (s : Nat) : Prop where
  lo : 1 ≤ s
  hi : s < 2 ^ n
  eq : topO n vs = memL n (s : Int)
  dom : ∀ i j, i < n → j < n → bitAt (s : Int) i = true → bitAt (s : Int) j = false → bt vs i j = true
  one : ∀ w, w < n → (∀ j, j < n → j ≠ w → bt vs w j = true) → cntTo (s : Int) 6 ≤ 1
set_option maxRecDepth 100000 in
theorem top_f {n : Nat} {vs : List Vt} (h0 : profOk n vs = true) : ∃ s, TopF n vs s := by
  have hsz := prof_size h0
  have n1 : 1 ≤ n := by omega
  have n5 : n ≤ 5 := by omega
  obtain ⟨s, h1, h2, h3, h4, h5⟩ := top_least n1 n5 vs _ (Nat.le_refl _)
  have hp : 1 ≤ 2 ^ n := Nat.pow_pos (by decide)
  refine ⟨s, h1, by omega, ?_, fun i j hi hj bi bj => ?_, fun w hw hb => ?_⟩
  · unfold topO
    rw [if_pos h0, Int.toNat_natCast, topO_impl n1 n5, h3]
  · have h6 := allN_at (allN_at h4 hi) hj
    unfold restC at h6
    rw [bi, bj] at h6
    simpa using h6
  · have hlt : 2 ^ w < 2 ^ n := Nat.pow_lt_pow_right (by decide) hw
    have hpw : 1 ≤ 2 ^ w := Nat.pow_pos (by decide)
    have := h5 (2 ^ w) hpw (by omega) (allN_t fun i hi => allN_t fun j hj => by
      unfold restC
      rw [bit_two, bit_two]
      by_cases e : w = i
      · subst e
        by_cases e2 : w = j
        · subst e2; simp
        · rw [hb j hj (fun h => e2 h.symm)]; simp
      · simp [e])
    rw [cnt_two w (by omega)] at this
    exact this
set_option maxRecDepth 100000 in
theorem TopF.mem {n : Nat} {vs : List Vt} {s : Nat} (h : TopF n vs s) {x : Int} : x ∈ topO n vs ↔ ∃ i : Nat, i < n ∧ bitAt (s : Int) i = true ∧ x = i := by
  rw [h.eq]; exact upL_mem
set_option maxRecDepth 100000 in
theorem TopF.memN {n : Nat} {vs : List Vt} {s : Nat} (h : TopF n vs s) {i : Nat} (hi : i < n) : (i : Int) ∈ topO n vs ↔ bitAt (s : Int) i = true := by
  rw [h.mem]
  constructor
  · rintro ⟨j, _, hb, e⟩
    have : i = j := by omega
    rw [this]; exact hb
  · intro hb
    exact ⟨i, hi, hb, rfl⟩
set_option maxRecDepth 100000 in
theorem TopF.len {n : Nat} {vs : List Vt} {s : Nat} (h : TopF n vs s) (n5 : n ≤ 5) : ((topO n vs).length : Int) = cntTo (s : Int) 6 := by
  have hp := pow_le32 n5
  have := h.hi
  rw [h.eq, memL_len, cnt6 n n5 s (by omega) (by omega)]
set_option maxRecDepth 100000 in
theorem TopF.pos {n : Nat} {vs : List Vt} {s : Nat} (h : TopF n vs s) (n5 : n ≤ 5) : 1 ≤ (topO n vs).length := by
  have hp := pow_le32 n5
  have h1 := h.hi
  have h2 := cnt_pos s (by omega) h.lo
  have := h.len n5
  omega
set_option maxRecDepth 100000 in
theorem TopF.some {n : Nat} {vs : List Vt} {s : Nat} (h : TopF n vs s) (n5 : n ≤ 5) : ∃ b : Nat, b < n ∧ bitAt (s : Int) b = true := by
  obtain ⟨x, hx⟩ := at_of_lt (xs := topO n vs) (k := 0) (h.pos n5)
  obtain ⟨b, hb, h1, _⟩ := h.mem.1 (List.mem_of_getElem? hx)
  exact ⟨b, hb, h1⟩

set_option maxRecDepth 100000 in
theorem TopF.win {n : Nat} {vs : List Vt} {s : Nat} (h : TopF n vs s) (n5 : n ≤ 5) {w : Nat} (hw : w < n) (hb : ∀ j, j < n → j ≠ w → bt vs w j = true) : topO n vs = [(w : Int)] := by
  have h1 := h.one w hw hb
  have h2 := h.len n5
  have h3 := h.pos n5
  have h4 : (topO n vs).length = 1 := by omega
  obtain ⟨x, hx⟩ := List.length_eq_one_iff.1 h4
  obtain ⟨b, hbn, hbb, e⟩ := h.mem.1 (show x ∈ topO n vs by rw [hx]; simp)
  rw [hx, e]
  by_cases e2 : b = w
  · rw [e2]
  · exfalso
    cases hbw : bitAt (s : Int) w
    · have h5 := h.dom b w hbn hw hbb hbw
      rw [bt_anti vs _ _ (hb b hbn e2)] at h5
      cases h5
    · have := (h.memN hw).2 hbw
      rw [hx, List.mem_singleton] at this
      omega
set_option maxRecDepth 100000 in
theorem TopF.sole {n : Nat} {vs : List Vt} {s : Nat} (h : TopF n vs s) (h1 : (topO n vs).length = 1) : ∃ w : Nat, w < n ∧ ∀ j, j < n → j ≠ w → bt vs w j = true := by
  obtain ⟨x, hx⟩ := List.length_eq_one_iff.1 h1
  obtain ⟨b, hbn, hbb, e⟩ := h.mem.1 (show x ∈ topO n vs by rw [hx]; simp)
  refine ⟨b, hbn, fun j hj hne => h.dom b j hbn hj hbb ?_⟩
  cases hbj : bitAt (s : Int) j
  · rfl
  · have := (h.memN hj).2 hbj
    rw [hx, List.mem_singleton] at this
    omega
set_option maxRecDepth 100000 in
theorem cov_iff {n : Nat} {vs : List Vt} {a b : Nat} : coversV n vs a b = true ↔ bt vs a b = true ∧ ∀ z, z < n → bt vs z a = true → bt vs z b = true := by
  unfold coversV
  rw [Bool.and_eq_true, allN_iff]
  refine and_congr Iff.rfl ⟨fun h z hz h1 => ?_, fun h z hz => ?_⟩
  · have := h z hz
    unfold coversP at this
    unfold bt at h1 ⊢
    rw [h1] at this
    simpa using this
  · unfold coversP
    cases h1 : beatsV vs z a
    · rfl
    · rw [show beatsV vs z b = true from h z hz h1]; rfl
set_option maxRecDepth 100000 in
theorem bt_self (vs : List Vt) (i : Nat) : bt vs i i = false := beatsV_self vs i
set_option maxRecDepth 100000 in
theorem cov_trans {n : Nat} {vs : List Vt} {a b c : Nat} (ha : a < n) (h1 : coversV n vs a b = true) (h2 : coversV n vs b c = true) : coversV n vs a c = true := by
  rw [cov_iff] at *
  exact ⟨h2.2 a ha h1.1, fun z hz h => h2.2 z hz (h1.2 z hz h)⟩

set_option maxRecDepth 100000 in
/-- The sum over those that are left. -/
theorem upL_sum {n : Nat} {q : Nat → Bool} (f : Int → Int) : ((upL n q).map f).sum = sgN (fun j => if q j then f j else 0) n := by
  induction n with
  | zero => simp [upL, sgN]
  | succ n ih =>
    rw [upL_succ, List.map_append, List.sum_append, ih, sgN]
    cases q n <;> simp
set_option maxRecDepth 100000 in
theorem sgN_pos {f : Nat → Int} {n w : Nat} (hw : w < n) (h : ∀ i, i < n → 0 ≤ f i) (hp : 0 < f w) : 0 < sgN f n := by
  induction n with
  | zero => omega
  | succ n ih =>
    rw [sgN]
    have h1 := h n (by omega)
    by_cases e : w = n
    · subst e
      have h2 : sgN (fun _ => 0) w ≤ sgN f w := sgN_le (fun i hi => h i (by omega))
      rw [sgN_zero] at h2
      omega
    · have := ih (by omega) (fun i hi => h i (by omega))
      omega
set_option maxRecDepth 100000 in
theorem sgN_one {f : Nat → Int} {n w : Nat} (hw : w < n) (h : ∀ i, i < n → i ≠ w → f i = 0) : sgN f n = f w := by
  induction n with
  | zero => omega
  | succ n ih =>
    rw [sgN]
    by_cases e : w = n
    · subst e
      rw [sgN_congr (g := fun _ => 0) (fun i hi => h i (by omega) (by omega)), sgN_zero]
      omega
    · rw [ih (by omega) (fun i hi => h i (by omega)), h n (by omega) (fun h => e h.symm)]
      omega
set_option maxRecDepth 100000 in
/-- The picked one has the least worth, and none behind it has the same. -/
theorem pickV_least {f : Int → Int} {xs : List Int} (h0 : ∀ x ∈ xs, 0 ≤ x) (hp : xs.Pairwise (· < ·)) : ∀ y ∈ xs, f (pickV f xs) < f y ∨ (f (pickV f xs) = f y ∧ y ≤ pickV f xs) := by
  suffices H : ∀ k, k ≤ xs.length → ∀ y ∈ xs.take k, f (pickV f (xs.take k)) < f y ∨ (f (pickV f (xs.take k)) = f y ∧ y ≤ pickV f (xs.take k)) by
    have := H xs.length (Nat.le_refl _)
    rw [List.take_length] at this
    exact this
  intro k
  induction k with
  | zero => intro _ y hy; simp at hy
  | succ k ih =>
    intro hk y hy
    obtain ⟨x, hx⟩ := at_of_lt (xs := xs) (k := k) (by omega)
    rw [take_at hx] at hy ⊢
    rw [pickV_snoc]
    by_cases hc : pickV f (xs.take k) < 0 ∨ f x ≤ f (pickV f (xs.take k))
    · rw [if_pos hc]
      rcases List.mem_append.1 hy with hy | hy
      · have h1 := ih (by omega) y hy
        have hne : xs.take k ≠ [] := fun e => by rw [e] at hy; simp at hy
        have hm := h0 _ (List.mem_of_mem_take (pickV_mem (f := f) hne))
        have hyx : y < x := by
          obtain ⟨i, hi⟩ := List.mem_iff_getElem?.1 hy
          have hik : i < k := by have := lt_of_at hi; rw [List.length_take] at this; omega
          rw [List.getElem?_take_of_lt hik] at hi
          have l1 := lt_of_at hi
          have l2 := lt_of_at hx
          have h3 := List.pairwise_iff_getElem.1 hp i k l1 l2 hik
          rw [List.getElem?_eq_getElem l1] at hi
          rw [List.getElem?_eq_getElem l2] at hx
          injection hi with hi
          injection hx with hx
          rw [← hi, ← hx]
          exact h3
        omega
      · simp at hy
        subst hy
        omega
    · rw [if_neg hc]
      rcases List.mem_append.1 hy with hy | hy
      · exact ih (by omega) y hy
      · simp at hy
        subst hy
        omega
set_option maxRecDepth 100000 in
theorem leftL_up (n : Nat) (out : List Int) : (leftL n out).Pairwise (· < ·) := by
  unfold leftL upL
  refine List.Pairwise.map _ (fun a b h => ?_) (List.Pairwise.filter _ List.pairwise_lt_range)
  show (a : Int) < (b : Int)
  omega
set_option maxRecDepth 100000 in
/-- What is eliminated k-th. -/
theorem elim_take {n : Nat} (W : List Int → Int → Int) : ∀ m k, k ≤ m → (elimL n W m).take k = elimL n W k
  | 0, k, hk => by
    have : k = 0 := by omega
    subst this; rfl
  | m + 1, k, hk => by
    by_cases e : k = m + 1
    · subst e
      exact List.take_of_length_le (by rw [elimL_len]; exact Nat.le_refl _)
    · rw [elimL, List.take_append_of_le_length (by rw [elimL_len]; omega), elim_take W m k (by omega)]
set_option maxRecDepth 100000 in
theorem elim_at {n : Nat} (W : List Int → Int → Int) {m k : Nat} (hk : k < m) : (elimL n W m)[k]? = some (pickV (W (leftL n (elimL n W k))) (leftL n (elimL n W k))) := by
  have h1 := elim_take (n := n) W m (k + 1) (by omega)
  rw [← List.getElem?_take_of_lt (show k < k + 1 by omega), h1, elimL, List.getElem?_append_right (by rw [elimL_len]; exact Nat.le_refl _), elimL_len]
  simp
set_option maxRecDepth 100000 in
theorem elim_pick {n : Nat} (W : List Int → Int → Int) {k : Nat} (hk : k < n) : pickV (W (leftL n (elimL n W k))) (leftL n (elimL n W k)) ∈ leftL n (elimL n W k) := by
  have hl := leftL_elim (n := n) W k (by omega)
  exact pickV_mem (fun e => by rw [e, List.length_nil] at hl; omega)
set_option maxRecDepth 100000 in
theorem elim_nodup {n : Nat} (W : List Int → Int → Int) : ∀ k, k ≤ n → (elimL n W k).Nodup
  | 0, _ => List.nodup_nil
  | k + 1, hk => by
    have hm := elim_pick (n := n) W (k := k) (by omega)
    obtain ⟨i, _, hn, e⟩ := leftL_mem.1 hm
    rw [elimL, List.nodup_append]
    refine ⟨elim_nodup W k (by omega), by simp, fun x hx y hy => ?_⟩
    simp at hy
    rw [hy, e]
    rintro rfl
    exact hn hx
set_option maxRecDepth 100000 in
theorem elim_rk {n : Nat} (n1 : 1 ≤ n) (n5 : n ≤ 5) (W : List Int → Int → Int) : rkOk n (elimL n W n) = true := by
  simp only [rkOk, Bool.and_eq_true, decide_eq_true_eq, List.all_eq_true]
  refine ⟨inR_iff.2 (by omega), by rw [elimL_len], fun x hx => ?_, elim_nodup W n (Nat.le_refl _)⟩
  obtain ⟨k, hk⟩ := List.mem_iff_getElem?.1 hx
  have hlt := lt_of_at hk
  rw [elimL_len] at hlt
  rw [elim_at W hlt] at hk
  injection hk with hk
  obtain ⟨i, hi, _, e⟩ := leftL_mem.1 (elim_pick (n := n) W hlt)
  rw [hk] at e
  rw [e]
  exact inR_iff.2 (by omega)
set_option maxRecDepth 100000 in
/-- One who is never picked while others are left is the last one. -/
theorem elim_stay {n : Nat} {W : List Int → Int → Int} {a : Nat} (ha : a < n) (h : ∀ k, k + 1 < n → (a : Int) ∈ leftL n (elimL n W k) → pickV (W (leftL n (elimL n W k))) (leftL n (elimL n W k)) ≠ a) : lastI (elimL n W n) = a := by
  obtain ⟨m, rfl⟩ : ∃ m, n = m + 1 := ⟨n - 1, by omega⟩
  have key : ∀ k, k ≤ m → (a : Int) ∈ leftL (m + 1) (elimL (m + 1) W k) := by
    intro k
    induction k with
    | zero => intro _; exact leftL_mem.2 ⟨a, ha, by simp [elimL], rfl⟩
    | succ k ih =>
      intro hk
      have h1 := ih (by omega)
      have h2 := h k (by omega) h1
      obtain ⟨i, hi, hn, e⟩ := leftL_mem.1 h1
      have : i = a := by omega
      subst this
      refine leftL_mem.2 ⟨i, hi, fun hm => ?_, rfl⟩
      rw [elimL, List.mem_append] at hm
      rcases hm with hm | hm
      · exact hn hm
      · rw [List.mem_singleton] at hm
        exact h2 hm.symm
  have h1 := key m (Nat.le_refl _)
  have h2 := leftL_elim (n := m + 1) W m (by omega)
  have h3 := elim_pick (n := m + 1) W (k := m) (by omega)
  obtain ⟨x, hx⟩ := List.length_eq_one_iff.1 (show (leftL (m + 1) (elimL (m + 1) W m)).length = 1 by omega)
  rw [hx, List.mem_singleton] at h1 h3
  rw [elimL, lastI_snoc, hx, h3]
  exact h1.symm
set_option maxRecDepth 100000 in
/-- Two are left: one of them is another one. -/
theorem left_other {n : Nat} {W : List Int → Int → Int} {k : Nat} (hk : k + 1 < n) (a : Nat) : ∃ y : Nat, y < n ∧ (y : Int) ∈ leftL n (elimL n W k) ∧ y ≠ a := by
  have h2 := leftL_elim (n := n) W k (by omega)
  obtain ⟨x, hx⟩ := at_of_lt (xs := leftL n (elimL n W k)) (k := 0) (by omega)
  obtain ⟨y, hy⟩ := at_of_lt (xs := leftL n (elimL n W k)) (k := 1) (by omega)
  have hp := leftL_up n (elimL n W k)
  have hlt : x < y := by
    have l1 := lt_of_at hx
    have l2 := lt_of_at hy
    have h3 := List.pairwise_iff_getElem.1 hp 0 1 l1 l2 (by omega)
    rw [List.getElem?_eq_getElem l1] at hx
    rw [List.getElem?_eq_getElem l2] at hy
    injection hx with hx
    injection hy with hy
    rw [← hx, ← hy]
    exact h3
  have mx := List.mem_of_getElem? hx
  have my := List.mem_of_getElem? hy
  obtain ⟨i, hi, _, e1⟩ := leftL_mem.1 mx
  obtain ⟨j, hj, _, e2⟩ := leftL_mem.1 my
  subst e1
  subst e2
  by_cases e : i = a
  · exact ⟨j, hj, my, by omega⟩
  · exact ⟨i, hi, mx, e⟩
set_option maxRecDepth 100000 in
theorem notIn_iff {n : Nat} {out : List Int} {i : Nat} (hi : i < n) : notIn out i = true ↔ (i : Int) ∈ leftL n out := by
  unfold leftL
  rw [upL_mem]
  constructor
  · intro h; exact ⟨i, hi, h, rfl⟩
  · rintro ⟨j, _, h, e⟩
    have : i = j := by omega
    rw [this]; exact h

set_option maxRecDepth 100000 in
/-- Of those that are left exactly one stands first. -/
theorem first_one {n : Nat} {r : List Int} {q : Nat → Bool} (h : rkOk n r = true) {left : List Int} (hl : left = upL n q) (hne : left ≠ []) : sgN (fun i => if q i then (if fsP left i r then (1 : Int) else 0) else 0) n = 1 := by
  have hm : ∀ x ∈ left, 0 ≤ x := fun x hx => by
    rw [hl] at hx
    obtain ⟨i, _, _, e⟩ := upL_mem.1 hx
    omega
  have hpw : left.Pairwise (· < ·) := by
    rw [hl]
    unfold upL
    refine List.Pairwise.map _ (fun a b h => ?_) (List.Pairwise.filter _ List.pairwise_lt_range)
    show (a : Int) < (b : Int)
    omega
  have h1 := pickV_mem (f := placeI r) hne
  have h2 := pickV_least (f := placeI r) hm hpw
  generalize pickV (placeI r) left = p at h1 h2
  have h1' := h1
  rw [hl] at h1'
  obtain ⟨w, hw, hq, e⟩ := upL_mem.1 h1'
  subst e
  have hin : ∀ {i : Nat}, i < n → q i = true → (i : Int) ∈ left := fun {i} hi hqi => by rw [hl]; exact upL_mem.2 ⟨i, hi, hqi, rfl⟩
  have hf : fsP left w r = true := by
    unfold fsP
    rw [Bool.not_eq_true', List.any_eq_false]
    intro b hb
    have h3 := h2 b hb
    unfold prefB
    intro h4
    simp only [Bool.and_eq_true, decide_eq_true_eq] at h4
    omega
  rw [sgN_one hw (fun i hi hne2 => ?_), hq, hf]
  · rfl
  · cases hqi : q i
    · rfl
    · have h3 : fsP left i r = false := by
        unfold fsP
        rw [Bool.not_eq_false', List.any_eq_true]
        refine ⟨w, h1, ?_⟩
        have h4 := h2 i (hin hi hqi)
        obtain ⟨a, _, ea, ha, _⟩ := place_at h hi
        obtain ⟨b, _, eb, hb, _⟩ := place_at h hw
        rw [ea, eb] at h4
        have hab : a ≠ b := fun e => by
          rw [e, hb] at ha
          injection ha with ha
          omega
        unfold prefB
        rw [ea, eb]
        simp only [Bool.and_eq_true, decide_eq_true_eq]
        omega
      rw [h3]; rfl
set_option maxRecDepth 100000 in
theorem first_sum {n : Nat} {q : Nat → Bool} (hne : upL n q ≠ []) : ∀ {vs : List Vt}, SmallV n vs → sgN (fun i => if q i then worF vs (upL n q) i else 0) n = allV vs
  | [], _ => by
    rw [sgN_congr (g := fun _ => 0) (fun i _ => by unfold worF; rw [sumV_nil]; split <;> rfl), sgN_zero]; rfl
  | x :: vs, h => by
    have ih := first_sum (q := q) hne h.tail
    have h1 := first_one h.head.1 (q := q) rfl hne
    have e : sgN (fun i => if q i then worF (x :: vs) (upL n q) i else 0) n = sgN (fun i => x.2 * (if q i then (if fsP (upL n q) i x.1 then (1 : Int) else 0) else 0)) n + sgN (fun i => if q i then worF vs (upL n q) i else 0) n := by
      rw [← sgN_add]
      refine sgN_congr (fun i _ => ?_)
      unfold worF
      rw [sumV_cons]
      cases q i <;> cases fsP (upL n q) i x.1 <;> simp
    rw [e, sgN_mul, h1, ih, allV_cons]
    omega
set_option maxRecDepth 100000 in
theorem worF_nonneg {n : Int} {vs : List Vt} (hS : SmallV n vs) (left : List Int) (x : Int) : 0 ≤ worF vs left x := (sumV_bd' hS).1
set_option maxRecDepth 100000 in
theorem sumV_mono {p q : List Int → Bool} {sz : Int} : ∀ {vs : List Vt}, SmallV sz vs → (∀ x ∈ vs, p x.1 = true → q x.1 = true) → sumV p vs ≤ sumV q vs
  | [], _, _ => Int.le_refl _
  | x :: vs, hS, h => by
    have ih := sumV_mono (p := p) (q := q) hS.tail (fun y hy => h y (by simp [hy]))
    have h1 := hS.head
    have h2 := h x (by simp)
    rw [sumV_cons, sumV_cons]
    cases hp : p x.1
    · cases q x.1 <;> simp <;> omega
    · rw [h2 hp]; simp; omega
set_option maxRecDepth 100000 in
/-- Who is first of all is first of those that are left. -/
theorem fst_wor {n : Nat} {vs : List Vt} (hS : SmallV n vs) {a : Nat} (left : List Int) : fstV vs a ≤ worF vs left a := by
  unfold fstV plcV worF
  refine sumV_mono hS (fun x hx h => ?_)
  unfold plcP at h
  unfold fsP
  rw [Bool.not_eq_true', List.any_eq_false]
  intro b hb h4
  have h5 : placeI x.1 a = 0 := by
    have hx0 : x.1[0]? = some (a : Int) := by simpa using h
    unfold placeI
    exact findI_some hx0 (by simp) (by simp)
  unfold prefB at h4
  simp only [Bool.and_eq_true, decide_eq_true_eq] at h4
  omega
set_option maxRecDepth 100000 in
/-- A majority's candidate is never eliminated when first places count. -/
theorem maj_inst {n : Nat} {vs : List Vt} (hS : SmallV n vs) {a : Nat} (ha : a < n) (hm : allV vs < 2 * fstV vs a) : lastI (elimL n (worF vs) n) = a := by
  refine elim_stay ha (fun k hk hin hp => ?_)
  obtain ⟨y, hy, hyl, hya⟩ := left_other (W := worF vs) hk a
  generalize elimL n (worF vs) k = out at hin hp hyl
  have h1 := pickV_least (f := worF vs (leftL n out)) (fun x hx => leftL_pos hx) (leftL_up n out) y hyl
  rw [hp] at h1
  have h2 := fst_wor hS (a := a) (leftL n out)
  have hne : leftL n out ≠ [] := fun e => by rw [e] at hyl; simp at hyl
  have h3 := first_sum (n := n) (q := notIn out) hne hS
  have h4 : sgN (fun i => (if i = a then worF vs (leftL n out) a else 0) + (if i = y then worF vs (leftL n out) y else 0)) n ≤ sgN (fun i => if notIn out i then worF vs (upL n (notIn out)) i else 0) n := by
    refine sgN_le (fun i hi => ?_)
    have h5 := worF_nonneg hS (leftL n out) i
    by_cases e1 : i = a
    · subst e1
      rw [if_pos rfl, if_neg (fun e => hya e.symm), if_pos ((notIn_iff hi).2 hin)]
      exact Int.le_of_eq (Int.add_zero _)
    · by_cases e2 : i = y
      · subst e2
        rw [if_neg e1, if_pos rfl, if_pos ((notIn_iff hi).2 hyl)]
        exact Int.le_of_eq (Int.zero_add _)
      · rw [if_neg e1, if_neg e2]
        split
        · exact h5
        · decide
  rw [sgN_add, sgN_one (w := a) ha (fun i _ hne => if_neg hne), sgN_one (w := y) hy (fun i _ hne => if_neg hne), if_pos rfl, if_pos rfl, h3] at h4
  omega

/-- Won less lost comparisons with those that are left. -/
def difV (vs : List Vt) (n : Nat) (q : Nat → Bool) (i : Nat) : Int := sgN (fun j => if q j then pairV vs i j - pairV vs j i else 0) n
set_option maxRecDepth 100000 in
theorem dif_sum (vs : List Vt) (n : Nat) (q : Nat → Bool) : sgN (fun i => if q i then difV vs n q i else 0) n = 0 := by
  have e1 : sgN (fun i => if q i then difV vs n q i else 0) n = sgN (fun i => sgN (fun j => if q i && q j then pairV vs i j else 0) n) n - sgN (fun i => sgN (fun j => if q i && q j then pairV vs j i else 0) n) n := by
    have e2 : ∀ f g : Nat → Int, sgN f n - sgN g n = sgN (fun i => f i - g i) n := by
      intro f g
      have : ∀ m, sgN f m - sgN g m = sgN (fun i => f i - g i) m := by
        intro m
        induction m with
        | zero => rfl
        | succ m ih => rw [sgN, sgN, sgN, ← ih]; omega
      exact this n
    rw [e2]
    refine sgN_congr (fun i _ => ?_)
    rw [e2]
    cases q i
    · simp only [Bool.false_and, Bool.false_eq_true, if_false, Int.sub_self]
      exact (sgN_zero n).symm
    · simp only [Bool.true_and, if_true]
      unfold difV
      refine sgN_congr (fun j _ => ?_)
      cases q j <;> simp
  rw [e1, sgN_swap (fun i j => if q i && q j then pairV vs i j else 0)]
  have e3 : sgN (fun j => sgN (fun i => if q i && q j then pairV vs i j else 0) n) n = sgN (fun i => sgN (fun j => if q i && q j then pairV vs j i else 0) n) n := by
    refine sgN_congr (fun j _ => sgN_congr (fun i _ => ?_))
    rw [Bool.and_comm]
  rw [e3]
  omega
set_option maxRecDepth 100000 in
theorem wor_dif {n : Nat} {vs : List Vt} (hS : SmallV n vs) {q : Nat → Bool} {i : Nat} (hi : i < n) (hq : q i = true) : 2 * worP vs (upL n q) i = sgN (fun j => if q j then allV vs else 0) n - allV vs + difV vs n q i := by
  have e1 : worP vs (upL n q) i = sgN (fun j => if q j then pairV vs i j else 0) n := by
    unfold worP; rw [upL_sum (fun b => pairV vs i b)]
  have e2 : sgN (fun j => if q j then allV vs else 0) n = sgN (fun j => if q j then pairV vs i j else 0) n + sgN (fun j => if q j then pairV vs j i else 0) n + sgN (fun j => if j = i then allV vs else 0) n := by
    rw [← sgN_add, ← sgN_add]
    refine sgN_congr (fun j hj => ?_)
    by_cases e : j = i
    · subst e
      rw [if_pos hq, if_pos rfl, if_pos hq, pairW_self]
      omega
    · rw [if_neg e]
      cases q j
      · rfl
      · have := pair_tot hi hj (fun h => e h.symm) hS
        simp only [if_true]
        omega
  have e3 : difV vs n q i = sgN (fun j => if q j then pairV vs i j else 0) n - sgN (fun j => if q j then pairV vs j i else 0) n := by
    have e4 : sgN (fun j => if q j then pairV vs i j else 0) n = difV vs n q i + sgN (fun j => if q j then pairV vs j i else 0) n := by
      unfold difV
      rw [← sgN_add]
      refine sgN_congr (fun j _ => ?_)
      cases q j <;> simp
    omega
  rw [sgN_one (w := i) hi (fun j _ hne => if_neg hne), if_pos rfl] at e2
  omega
set_option maxRecDepth 100000 in
/-- One that beats all others is never eliminated by comparisons. -/
theorem win_bald {n : Nat} {vs : List Vt} (hS : SmallV n vs) {a : Nat} (ha : a < n) (hb : ∀ j, j < n → j ≠ a → bt vs a j = true) : lastI (elimL n (worP vs) n) = a := by
  refine elim_stay ha (fun k hk hin hp => ?_)
  obtain ⟨y, hy, hyl, hya⟩ := left_other (W := worP vs) hk a
  generalize elimL n (worP vs) k = out at hin hp hyl
  have hqa := (notIn_iff ha).2 hin
  have hdi : ∀ i, i < n → notIn out i = true → difV vs n (notIn out) a ≤ difV vs n (notIn out) i := fun i hi hqi => by
    have h1 := pickV_least (f := worP vs (leftL n out)) (fun x hx => leftL_pos hx) (leftL_up n out) i ((notIn_iff hi).1 hqi)
    rw [hp] at h1
    have h2 := wor_dif hS ha hqa
    have h3 := wor_dif hS hi hqi
    unfold leftL at h1
    omega
  have hpos : 0 < difV vs n (notIn out) a := by
    unfold difV
    have hlt : ∀ j, j < n → j ≠ a → pairV vs j a < pairV vs a j := fun j hj hne => by
      have := hb j hj hne
      unfold bt beatsV at this
      simpa using this
    refine sgN_pos hy (fun i hi => ?_) ?_
    · split
      · by_cases e : i = a
        · rw [e]; omega
        · have := hlt i hi e
          omega
      · decide
    · rw [if_pos ((notIn_iff hy).2 hyl)]
      have := hlt y hy hya
      omega
  have h4 := dif_sum vs n (notIn out)
  have h5 : 0 < sgN (fun i => if notIn out i then difV vs n (notIn out) i else 0) n := by
    refine sgN_pos ha (fun i hi => ?_) ?_
    · split
      · rename_i hq
        have := hdi i hi hq
        omega
      · decide
    · rw [if_pos hqa]
      exact hpos
  omega

set_option maxRecDepth 100000 in
theorem cntN_sg (q : Nat → Bool) : ∀ n, ((cntN n q : Nat) : Int) = sgN (fun j => if q j then 1 else 0) n
  | 0 => by simp [cntN, sgN]
  | n + 1 => by
    rw [cntN_succ, sgN, ← cntN_sg q n]
    cases q n <;> simp
set_option maxRecDepth 100000 in
theorem sgN_sub (f g : Nat → Int) : ∀ n, sgN (fun i => f i - g i) n = sgN f n - sgN g n
  | 0 => rfl
  | n + 1 => by rw [sgN, sgN, sgN, sgN_sub f g n]; omega

set_option maxRecDepth 100000 in
/-- Neighbours change places. -/
theorem bkI_nb (q : Int → Int → Bool) (a b : Int) (ys : List Int) : ∀ xs : List Int, bkI q (xs ++ a :: b :: ys) + (if q a b then 1 else 0) = bkI q (xs ++ b :: a :: ys) + (if q b a then 1 else 0)
  | [] => by
    rw [List.nil_append, List.nil_append, bkI, bkI, bkI, bkI, List.countP_cons, List.countP_cons]
    omega
  | x :: xs => by
    have ih := bkI_nb q a b ys xs
    rw [List.cons_append, List.cons_append, bkI, bkI]
    have hp : (xs ++ a :: b :: ys).Perm (xs ++ b :: a :: ys) := List.Perm.append_left xs (List.Perm.swap b a ys)
    rw [hp.countP_eq]
    omega
set_option maxRecDepth 100000 in
theorem placeI_cons (x a : Int) (xs : List Int) : placeI (x :: xs) a = if a = x then 0 else if placeI xs a < 0 then -1 else placeI xs a + 1 := by
  by_cases e : a = x
  · rw [if_pos e]
    unfold placeI
    exact findI_some (k := 0) (x := x) rfl (by simp) (by simp [e])
  · rw [if_neg e]
    unfold placeI findI
    rw [List.findIdx?_cons]
    have : (a == x) = false := by simpa using e
    simp only [this, Bool.false_eq_true, if_false]
    cases xs.findIdx? (fun y => a == y) with
    | none => rfl
    | some k =>
      have h1 : ¬ ((k : Nat) : Int) < 0 := by omega
      simp only [Option.map_some, h1, if_false]
      omega
set_option maxRecDepth 100000 in
/-- A count of pairs, from the places. -/
theorem bkI_pairs (q : Int → Int → Bool) : ∀ {xs : List Int}, xs.Nodup → bkI q xs = (xs.map (fun a => xs.countP (fun b => prefB xs a b && q b a))).sum
  | [], _ => rfl
  | x :: xs, hd => by
    rw [List.nodup_cons] at hd
    have ih := bkI_pairs q hd.2
    have hpl : ∀ a ∈ xs, 0 ≤ placeI xs a := fun a ha => by
      have := (place_in (xs := xs) (a := a))
      by_cases h : placeI xs a < 0
      · exact absurd ha (this.1 h)
      · omega
    have hne : ∀ a ∈ xs, a ≠ x := fun a ha e => hd.1 (e ▸ ha)
    rw [bkI, List.map_cons, List.sum_cons, ih]
    have h1 : (x :: xs).countP (fun b => prefB (x :: xs) x b && q b x) = xs.countP (fun y => q y x) := by
      rw [List.countP_cons, pref_self, Bool.false_and]
      simp only [Bool.false_eq_true, if_false, Nat.add_zero]
      refine List.countP_congr (fun b hb => ?_)
      have h2 := hpl b hb
      have : prefB (x :: xs) x b = true := by
        unfold prefB
        rw [placeI_cons, placeI_cons, if_pos rfl, if_neg (hne b hb), if_neg (by omega)]
        simp only [Bool.and_eq_true, decide_eq_true_eq]
        omega
      rw [this, Bool.true_and]
    have h2 : xs.map (fun a => (x :: xs).countP (fun b => prefB (x :: xs) a b && q b a)) = xs.map (fun a => xs.countP (fun b => prefB xs a b && q b a)) := by
      refine List.map_congr_left (fun a ha => ?_)
      have ha0 := hpl a ha
      have hn := hne a ha
      have e1 : prefB (x :: xs) a x = false := by
        unfold prefB
        rw [placeI_cons, placeI_cons, if_pos rfl, if_neg hn, if_neg (by omega)]
        have : ¬ placeI xs a + 1 < 0 := by omega
        simp [this]
      rw [List.countP_cons, e1, Bool.false_and]
      simp only [Bool.false_eq_true, if_false, Nat.add_zero]
      refine List.countP_congr (fun b hb => ?_)
      have hb0 := hpl b hb
      have e2 : prefB (x :: xs) a b = prefB xs a b := by
        unfold prefB
        rw [placeI_cons, placeI_cons, if_neg hn, if_neg (hne b hb), if_neg (by omega), if_neg (by omega)]
        have d1 : decide (0 ≤ placeI xs a + 1) = decide (0 ≤ placeI xs a) := decide_eq_decide.2 (by omega)
        have d2 : decide (0 ≤ placeI xs b + 1) = decide (0 ≤ placeI xs b) := decide_eq_decide.2 (by omega)
        have d3 : decide (placeI xs a + 1 < placeI xs b + 1) = decide (placeI xs a < placeI xs b) := decide_eq_decide.2 (by omega)
        rw [d1, d2, d3]
      rw [e2]
    rw [h1, h2]
set_option maxRecDepth 100000 in
theorem natSum_cast : ∀ xs : List Nat, ((xs.sum : Nat) : Int) = (xs.map (fun x : Nat => (x : Int))).sum
  | [] => rfl
  | x :: xs => by rw [List.sum_cons, List.map_cons, List.sum_cons, ← natSum_cast xs]; omega
set_option maxRecDepth 100000 in
theorem rk_sum {n : Nat} {r : List Int} (h : rkOk n r = true) (f : Int → Int) : (r.map f).sum = sgN (fun a => f (a : Int)) n := by
  rw [perm_sum ((rk_perm h).map f), upL_sum]
  exact sgN_congr (fun i _ => by simp)
set_option maxRecDepth 100000 in
/-- The pairs that two rankings order otherwise, one by one. -/
theorem bkI_sg {n : Nat} {r : List Int} (h : rkOk n r = true) (q : Int → Int → Bool) : (bkI q r : Int) = sgN (fun a => sgN (fun b => if prefB r a b && q b a then 1 else 0) n) n := by
  rw [bkI_pairs q (rk_nodup h), natSum_cast, List.map_map]
  have : ((fun x : Nat => (x : Int)) ∘ fun a => r.countP (fun b => prefB r a b && q b a)) = fun a : Int => ((cntN n (fun j : Nat => prefB r a (j : Int) && q (j : Int) a) : Nat) : Int) := by
    funext a
    show ((r.countP (fun b => prefB r a b && q b a) : Nat) : Int) = _
    rw [cntN_perm h (fun b => prefB r a b && q b a)]
  rw [this, rk_sum h (fun a : Int => ((cntN n (fun j : Nat => prefB r a (j : Int) && q (j : Int) a) : Nat) : Int))]
  exact sgN_congr (fun a _ => cntN_sg _ n)
set_option maxRecDepth 100000 in
theorem swap_sym {n : Nat} {xs r : List Int} (hx : rkOk n xs = true) (hr : rkOk n r = true) : (swapN xs r : Int) = swapN r xs := by
  unfold swapN
  rw [bkI_sg hx, bkI_sg hr, sgN_swap (fun a b => if prefB xs (a : Int) b && prefB r b a then (1 : Int) else 0)]
  refine sgN_congr (fun b _ => sgN_congr (fun a _ => ?_))
  rw [Bool.and_comm]
set_option maxRecDepth 100000 in
/-- The cost when neighbours change places. -/
theorem kem_nb {n : Nat} {a b : Int} {xs ys : List Int} (h1 : rkOk n (xs ++ a :: b :: ys) = true) (h2 : rkOk n (xs ++ b :: a :: ys) = true) : ∀ {vs : List Vt}, SmallV n vs → kemV vs (xs ++ a :: b :: ys) + pairV vs a b = kemV vs (xs ++ b :: a :: ys) + pairV vs b a
  | [], _ => by rfl
  | x :: vs, h => by
    have ih := kem_nb h1 h2 h.tail
    have e : ∀ r, kemV (x :: vs) r = x.2 * (swapN x.1 r : Int) + kemV vs r := fun r => by simp [kemV]
    rw [e, e]
    unfold pairV at ih ⊢
    rw [sumV_cons, sumV_cons, swap_sym h.head.1 h1, swap_sym h.head.1 h2]
    have h3 := bkI_nb (fun y z => prefB x.1 y z) a b ys xs
    unfold swapN
    generalize bkI (fun y z => prefB x.1 y z) (xs ++ a :: b :: ys) = A at h3 ⊢
    generalize bkI (fun y z => prefB x.1 y z) (xs ++ b :: a :: ys) = B at h3 ⊢
    have key : ∀ (p q : Bool), A + (if p then 1 else 0) = B + (if q then 1 else 0) → (A : Int) + (if p then 1 else 0) = (B : Int) + (if q then 1 else 0) := by
      intro p q h
      cases p <;> cases q <;> simp at h ⊢ <;> omega
    have h4 := key _ _ h3
    generalize (A : Int) = A' at h4 ⊢
    generalize (B : Int) = B' at h4 ⊢
    have h5 := congrArg (fun z => x.2 * z) h4
    simp only [Int.mul_add] at h5
    have key2 : ∀ (p q : Bool) (u v S T : Int), S + u = T + v → x.2 * A' + x.2 * (if p then 1 else 0) = x.2 * B' + x.2 * (if q then 1 else 0) → x.2 * A' + S + ((if p then x.2 else 0) + u) = x.2 * B' + T + ((if q then x.2 else 0) + v) := by
      intro p q u v S T h1 h2
      cases p <;> cases q <;> simp at h2 ⊢ <;> omega
    exact key2 _ _ _ _ _ _ ih h5
set_option maxRecDepth 100000 in
/-- A ranking with the least cost. -/
theorem lstT_min {cost : List Int → Int} {xss : List (List Int)} : ∀ k, k ≤ xss.length → (∀ j r, j < k → xss[j]? = some r → (lstT cost xss k).2.1 ≤ cost r) ∧ (1 ≤ k → 1 ≤ (lstT cost xss k).2.2)
  | 0, _ => ⟨fun j r hj => by omega, fun h => by omega⟩
  | k + 1, hk => by
    obtain ⟨r, hr⟩ := at_of_lt (xs := xss) (k := k) (by omega)
    have ih := lstT_min (cost := cost) (xss := xss) k (by omega)
    have hin : ∀ {j : Nat} {r' : List Int}, j < k + 1 → xss[j]? = some r' → (j < k ∨ r' = r) := fun {j r'} hj h => by
      by_cases e : j = k
      · subst e; rw [hr] at h; injection h with h; exact .inr h.symm
      · exact .inl (by omega)
    by_cases h0 : k = 0 ∨ cost r < (lstT cost xss k).2.1
    · rw [lstT_new hr h0]
      refine ⟨fun j r' hj h => ?_, fun _ => Nat.le_refl _⟩
      rcases hin hj h with h1 | h1
      · have := ih.1 j r' h1 h
        show cost r ≤ cost r'
        rcases h0 with h0 | h0 <;> omega
      · rw [h1]; exact Int.le_refl _
    · by_cases he : cost r = (lstT cost xss k).2.1
      · rw [lstT_tie hr (by omega) he]
        refine ⟨fun j r' hj h => ?_, fun _ => by show 1 ≤ _ + 1; omega⟩
        rcases hin hj h with h1 | h1
        · exact ih.1 j r' h1 h
        · rw [h1]; show (lstT cost xss k).2.1 ≤ cost r; omega
      · rw [lstT_old hr (by omega) (by omega)]
        refine ⟨fun j r' hj h => ?_, fun _ => ih.2 (by omega)⟩
        rcases hin hj h with h1 | h1
        · exact ih.1 j r' h1 h
        · rw [h1]; omega
set_option maxRecDepth 100000 in
theorem lst_min {cost : List Int → Int} {n : Nat} (n1 : 1 ≤ n) (n5 : n ≤ 5) : rkOk n (lstR cost n).1 = true ∧ (lstR cost n).2.1 = cost (lstR cost n).1 ∧ (∀ r, rkOk n r = true → cost (lstR cost n).1 ≤ cost r) ∧ 1 ≤ (lstR cost n).2.2 := by
  have hm := lstR_mem (cost := cost) n1 n5
  have h2 := lstT_min (cost := cost) (xss := allO n) _ (Nat.le_refl _)
  refine ⟨(allO_mem n1 n5).1 hm.1, hm.2, fun r hr => ?_, h2.2 (allO_pos n1 n5)⟩
  obtain ⟨j, hj⟩ := List.mem_iff_getElem?.1 ((allO_mem n1 n5).2 hr)
  rw [← hm.2]
  exact h2.1 j r (lt_of_at hj) hj
set_option maxRecDepth 100000 in
/-- Either all stand in order, or two neighbours do not. -/
theorem nb_or {R : Int → Int → Prop} (ht : ∀ a b c, R a b → R b c → R a c) : ∀ r : List Int, r.Pairwise R ∨ ∃ xs a b ys, r = xs ++ a :: b :: ys ∧ ¬ R a b
  | [] => .inl List.Pairwise.nil
  | [x] => .inl (by simp)
  | x :: y :: ys => by
    rcases nb_or ht (y :: ys) with h | ⟨xs, a, b, zs, e, hn⟩
    · by_cases hxy : R x y
      · refine .inl (List.pairwise_cons.2 ⟨fun z hz => ?_, h⟩)
        rcases List.mem_cons.1 hz with rfl | hz
        · exact hxy
        · exact ht _ _ _ hxy ((List.pairwise_cons.1 h).1 z hz)
      · exact .inr ⟨[], x, y, ys, rfl, hxy⟩
    · exact .inr ⟨x :: xs, a, b, zs, by rw [e]; rfl, hn⟩
set_option maxRecDepth 100000 in
theorem rk_nb {n : Nat} {xs ys : List Int} {a b : Int} (h : rkOk n (xs ++ a :: b :: ys) = true) : rkOk n (xs ++ b :: a :: ys) = true := rk_perm_ok (List.Perm.append_left xs (List.Perm.swap a b ys)) h

def transC (vs : List Vt) (a b c : Nat) : Bool := !(beatsV vs a b && (beatsV vs b c && !beatsV vs a c))
def transB (n : Nat) (vs : List Vt) (a b : Nat) : Bool := allN n (transC vs a b)
def transA (n : Nat) (vs : List Vt) (a : Nat) : Bool := allN n (transB n vs a)
def transO (sz : Int) (vs : List Vt) : Bool := profOk sz vs && allN sz.toNat (transA sz.toNat vs)
set_option maxRecDepth 100000 in
theorem trans_no {n : Nat} {vs : List Vt} {a b c : Nat} (ha : a < n) (hb : b < n) (hc : c < n) (h : transC vs a b c = false) : allN n (transA n vs) = false :=
  allN_f ha (allN_f hb (allN_f hc h))

set_option maxRecDepth 100000 in
/-- Won and lost comparisons are as many. -/
theorem cope_sum (n : Nat) (vs : List Vt) : sgN (copeV n vs) n = 0 := by
  have e : sgN (copeV n vs) n = sgN (fun i => sgN (fun j => if bt vs i j then 1 else 0) n) n - sgN (fun i => sgN (fun j => if bt vs j i then 1 else 0) n) n := by
    rw [← sgN_sub]
    refine sgN_congr (fun i _ => ?_)
    unfold copeV
    rw [cntN_sg, cntN_sg]
  rw [e, sgN_swap (fun i j => if bt vs i j then (1 : Int) else 0)]
  omega
set_option maxRecDepth 100000 in
theorem cope_win {n : Nat} {vs : List Vt} {w : Nat} (hw : w < n) (hb : ∀ j, j < n → j ≠ w → bt vs w j = true) : copeV n vs w = (n : Int) - 1 := by
  unfold copeV
  have h1 : cntN n (bt vs w) = n - 1 := (full_those hw (bt_self vs w)).2 (those_iff.2 hb)
  have h2 : cntN n (fun j => bt vs j w) = 0 := cntN_none.2 (allN_t fun j hj => by
    by_cases e : j = w
    · rw [e, bt_self]; rfl
    · rw [bt_anti vs _ _ (hb j hj e)]; rfl)
  rw [h1, h2]
  omega
/-- A ranking in which each beats all behind it. -/
structure MjF (n : Nat) (vs : List Vt) : Prop where
  rk : rkOk n (mjL n vs) = true
  fst : (mjL n vs)[0]? = some (winnerO n vs)
  tr : transO n vs = true
  lst : (mjL n vs)[n - 1]? = some (loserO n vs)
set_option maxRecDepth 100000 in
theorem mj_pair {n : Nat} {vs : List Vt} (h0 : profOk n vs = true) (h : mjB n vs = true) : rkOk n (mjL n vs) = true ∧ (mjL n vs).Pairwise (fun x y => beatsV vs x y = true) := by
  have hsz := prof_size h0
  unfold mjB at h
  rw [if_pos h0, Int.toNat_natCast] at h
  obtain ⟨r, hr⟩ := Option.isSome_iff_exists.1 h
  have e : mjL n vs = r := by unfold mjL; rw [if_pos h0, Int.toNat_natCast, hr]; rfl
  rw [e]
  unfold mjO at hr
  exact ⟨(allO_mem (by omega) (by omega)).1 (List.mem_of_find?_eq_some hr), mjOk_iff.1 (List.find?_some hr)⟩
set_option maxRecDepth 100000 in
theorem pw_lt {R : Int → Int → Prop} {xs : List Int} (h : xs.Pairwise R) {i j : Nat} {x y : Int} (hij : i < j) (hx : xs[i]? = some x) (hy : xs[j]? = some y) : R x y := by
  have l1 := lt_of_at hx
  have l2 := lt_of_at hy
  have := List.pairwise_iff_getElem.1 h i j l1 l2 hij
  rw [List.getElem?_eq_getElem l1] at hx
  rw [List.getElem?_eq_getElem l2] at hy
  injection hx with hx
  injection hy with hy
  rw [← hx, ← hy]
  exact this
set_option maxRecDepth 100000 in
theorem only_one {n : Nat} {vs : List Vt} (h0 : profOk n vs = true) {p : Nat → Nat → Bool} (ha : ∀ i j, p i j = true → p j i = false) {w : Nat} (hw : w < n) (hb : ∀ j, j < n → j ≠ w → p w j = true) : onlyL (thoseO n vs p) = w := by
  rw [thoseO_eq h0, upL_one hw (those_iff.2 hb) (fun j hj hq => ?_)]
  · rfl
  · by_cases e : j = w
    · exact e
    · have h1 := hb j hj e
      have h2 := those_iff.1 hq w hw (fun h => e h.symm)
      rw [ha _ _ h1] at h2
      cases h2
set_option maxRecDepth 100000 in
theorem pw_place {n : Nat} {vs : List Vt} {r : List Int} (hk : rkOk n r = true) (hp : r.Pairwise (fun x y => beatsV vs x y = true)) {a b : Nat} (ha : a < n) (hb : b < n) : (bt vs a b = true ↔ placeI r a < placeI r b) := by
  obtain ⟨i, _, ei, hi, _⟩ := place_at hk ha
  obtain ⟨j, _, ej, hj, hu⟩ := place_at hk hb
  rw [ei, ej]
  constructor
  · intro h
    by_cases hlt : i < j
    · omega
    · by_cases e : i = j
      · rw [e, hj] at hi
        injection hi with hi
        have : b = a := by omega
        rw [this, bt_self] at h
        cases h
      · have h2 : beatsV vs b a = true := pw_lt hp (show j < i by omega) hj hi
        have h3 := bt_anti vs _ _ h
        unfold bt at h3
        rw [h2] at h3
        cases h3
  · intro h
    exact pw_lt hp (show i < j by omega) hi hj
set_option maxRecDepth 100000 in
theorem mj_f {n : Nat} {vs : List Vt} (h0 : profOk n vs = true) (h : mjB n vs = true) : MjF n vs := by
  have hsz := prof_size h0
  obtain ⟨hk, hp⟩ := mj_pair h0 h
  generalize hr : mjL n vs = r at hk hp
  have hl := (rk_len hk).1
  refine ⟨by rw [hr]; exact hk, ?_, ?_, ?_⟩
  · rw [hr]
    obtain ⟨x, hx⟩ := at_of_lt (xs := r) (k := 0) (by omega)
    have hm := rk_mem hk (List.mem_of_getElem? hx)
    obtain ⟨w, rfl⟩ : ∃ w : Nat, x = w := ⟨x.toNat, by omega⟩
    have hw : w < n := by omega
    obtain ⟨i, _, ei, _, hu⟩ := place_at hk hw
    have := hu 0 hx
    unfold winnerO
    rw [hx, only_one h0 (p := bt vs) (fun i j => bt_anti vs i j) hw (fun j hj hne => ?_)]
    rw [pw_place hk hp hw hj, ei]
    obtain ⟨q, _, eq, hq, _⟩ := place_at hk hj
    rw [eq]
    by_cases e : q = 0
    · rw [e, hx] at hq
      injection hq with hq
      omega
    · omega
  · unfold transO
    rw [h0, Int.toNat_natCast, Bool.true_and]
    refine allN_t fun a ha => allN_t fun b hb => allN_t fun c hc => ?_
    unfold transC
    cases h1 : beatsV vs a b
    · rfl
    · cases h2 : beatsV vs b c
      · rfl
      · have h3 := (pw_place hk hp ha hb).1 h1
        have h4 := (pw_place hk hp hb hc).1 h2
        have h5 : beatsV vs a c = true := (pw_place hk hp ha hc).2 (by omega)
        rw [h5]; rfl
  · rw [hr]
    obtain ⟨x, hx⟩ := at_of_lt (xs := r) (k := n - 1) (by omega)
    have hm := rk_mem hk (List.mem_of_getElem? hx)
    obtain ⟨w, rfl⟩ : ∃ w : Nat, x = w := ⟨x.toNat, by omega⟩
    have hw : w < n := by omega
    obtain ⟨i, _, ei, _, hu⟩ := place_at hk hw
    have := hu (n - 1) hx
    unfold loserO
    rw [hx, only_one h0 (p := fun i j => bt vs j i) (fun i j => bt_anti vs j i) hw (fun j hj hne => ?_)]
    show bt vs j w = true
    rw [pw_place hk hp hj hw, ei]
    obtain ⟨q, hqn, eq, hq, _⟩ := place_at hk hj
    rw [eq]
    by_cases e : q = n - 1
    · rw [e, hx] at hq
      injection hq with hq
      omega
    · omega
set_option maxRecDepth 100000 in
theorem mj_one {vs : List Vt} (h0 : profOk (1 : Nat) vs = true) : mjB (1 : Nat) vs = true := by
  unfold mjB
  rw [if_pos h0, Int.toNat_natCast]
  unfold mjO
  rw [List.find?_isSome]
  obtain ⟨r, hr⟩ := allO_ne (n := 1) (by omega) (by omega)
  refine ⟨r, hr, ?_⟩
  have hk := (rk_len ((allO_mem (by omega) (by omega)).1 hr)).1
  obtain ⟨x, e⟩ := List.length_eq_one_iff.1 (show r.length = 1 by omega)
  rw [e, mjOk_iff]
  simp

end Go.Proofs.YtfmeklgdaabooaaGreatDoor
