/- Who is never eliminated (plain law). The counts of a round. -/
import Derived.Test.YthiojkpoeejkaaaCp17
import Derived.Test.YthiojkpoeejkaaaCp20
import Derived.Test.YthiojkpoeejkaaaCp21
import Derived.Test.YthiojkpoeejkaaaCp4
namespace Go.Proofs.Ythiojkpoeejkaaa
open Go.RowKit

set_option maxRecDepth 100000 in
/-- The sum over those that are left. -/
theorem upL_sum {n : Nat} {q : Nat → Bool} (f : Int → Int) : ((upL n q).map f).sum = sgN (fun j => if q j then f j else 0) n := by
  induction n with
  | zero => simp [upL, sgN]
  | succ n ih =>
    rw [upL_succ, List.map_append, List.sum_append, ih, sgN]
    cases q n <;> simp
set_option maxRecDepth 100000 in
theorem sgN_pos {f : Nat → Int} {n w : Nat} (hw : w < n) (h : ∀ i, i < n → 0 ≤ f i) (hp : 0 < f w) : 0 < sgN f n := by
  induction n with
  | zero => omega
  | succ n ih =>
    rw [sgN]
    have h1 := h n (by omega)
    by_cases e : w = n
    · subst e
      have h2 : sgN (fun _ => 0) w ≤ sgN f w := sgN_le (fun i hi => h i (by omega))
      rw [sgN_zero] at h2
      omega
    · have := ih (by omega) (fun i hi => h i (by omega))
      omega
set_option maxRecDepth 100000 in
theorem sgN_one {f : Nat → Int} {n w : Nat} (hw : w < n) (h : ∀ i, i < n → i ≠ w → f i = 0) : sgN f n = f w := by
  induction n with
  | zero => omega
  | succ n ih =>
    rw [sgN]
    by_cases e : w = n
    · subst e
      rw [sgN_congr (g := fun _ => 0) (fun i hi => h i (by omega) (by omega)), sgN_zero]
      omega
    · rw [ih (by omega) (fun i hi => h i (by omega)), h n (by omega) (fun h => e h.symm)]
      omega
set_option maxRecDepth 100000 in
/-- The picked one has the least worth, and none behind it has the same. -/
theorem pickV_least {f : Int → Int} {xs : List Int} (h0 : ∀ x ∈ xs, 0 ≤ x) (hp : xs.Pairwise (· < ·)) : ∀ y ∈ xs, f (pickV f xs) < f y ∨ (f (pickV f xs) = f y ∧ y ≤ pickV f xs) := by
  suffices H : ∀ k, k ≤ xs.length → ∀ y ∈ xs.take k, f (pickV f (xs.take k)) < f y ∨ (f (pickV f (xs.take k)) = f y ∧ y ≤ pickV f (xs.take k)) by
    have := H xs.length (Nat.le_refl _)
    rw [List.take_length] at this
    exact this
  intro k
  induction k with
  | zero => intro _ y hy; simp at hy
  | succ k ih =>
    intro hk y hy
    obtain ⟨x, hx⟩ := at_of_lt (xs := xs) (k := k) (by omega)
    rw [take_at hx] at hy ⊢
    rw [pickV_snoc]
    by_cases hc : pickV f (xs.take k) < 0 ∨ f x ≤ f (pickV f (xs.take k))
    · rw [if_pos hc]
      rcases List.mem_append.1 hy with hy | hy
      · have h1 := ih (by omega) y hy
        have hne : xs.take k ≠ [] := fun e => by rw [e] at hy; simp at hy
        have hm := h0 _ (List.mem_of_mem_take (pickV_mem (f := f) hne))
        have hyx : y < x := by
          obtain ⟨i, hi⟩ := List.mem_iff_getElem?.1 hy
          have hik : i < k := by have := lt_of_at hi; rw [List.length_take] at this; omega
          rw [List.getElem?_take_of_lt hik] at hi
          have l1 := lt_of_at hi
          have l2 := lt_of_at hx
          have h3 := List.pairwise_iff_getElem.1 hp i k l1 l2 hik
          rw [List.getElem?_eq_getElem l1] at hi
          rw [List.getElem?_eq_getElem l2] at hx
          injection hi with hi
          injection hx with hx
          rw [← hi, ← hx]
          exact h3
        omega
      · simp at hy
        subst hy
        omega
    · rw [if_neg hc]
      rcases List.mem_append.1 hy with hy | hy
      · exact ih (by omega) y hy
      · simp at hy
        subst hy
        omega
set_option maxRecDepth 100000 in
theorem leftL_up (n : Nat) (out : List Int) : (leftL n out).Pairwise (· < ·) := by
  unfold leftL upL
  refine List.Pairwise.map _ (fun a b h => ?_) (List.Pairwise.filter _ List.pairwise_lt_range)
  show (a : Int) < (b : Int)
  omega
set_option maxRecDepth 100000 in
/-- What is eliminated k-th. -/
theorem elim_take {n : Nat} (W : List Int → Int → Int) : ∀ m k, k ≤ m → (elimL n W m).take k = elimL n W k
  | 0, k, hk => by
    have : k = 0 := by omega
    subst this; rfl
  | m + 1, k, hk => by
    by_cases e : k = m + 1
    · subst e
      exact List.take_of_length_le (by rw [elimL_len]; exact Nat.le_refl _)
    · rw [elimL, List.take_append_of_le_length (by rw [elimL_len]; omega), elim_take W m k (by omega)]
set_option maxRecDepth 100000 in
theorem elim_at {n : Nat} (W : List Int → Int → Int) {m k : Nat} (hk : k < m) : (elimL n W m)[k]? = some (pickV (W (leftL n (elimL n W k))) (leftL n (elimL n W k))) := by
  have h1 := elim_take (n := n) W m (k + 1) (by omega)
  rw [← List.getElem?_take_of_lt (show k < k + 1 by omega), h1, elimL, List.getElem?_append_right (by rw [elimL_len]; exact Nat.le_refl _), elimL_len]
  simp
set_option maxRecDepth 100000 in
theorem elim_pick {n : Nat} (W : List Int → Int → Int) {k : Nat} (hk : k < n) : pickV (W (leftL n (elimL n W k))) (leftL n (elimL n W k)) ∈ leftL n (elimL n W k) := by
  have hl := leftL_elim (n := n) W k (by omega)
  exact pickV_mem (fun e => by rw [e, List.length_nil] at hl; omega)
set_option maxRecDepth 100000 in
theorem elim_nodup {n : Nat} (W : List Int → Int → Int) : ∀ k, k ≤ n → (elimL n W k).Nodup
  | 0, _ => List.nodup_nil
  | k + 1, hk => by
    have hm := elim_pick (n := n) W (k := k) (by omega)
    obtain ⟨i, _, hn, e⟩ := leftL_mem.1 hm
    rw [elimL, List.nodup_append]
    refine ⟨elim_nodup W k (by omega), by simp, fun x hx y hy => ?_⟩
    simp at hy
    rw [hy, e]
    rintro rfl
    exact hn hx
set_option maxRecDepth 100000 in
theorem elim_rk {n : Nat} (n1 : 1 ≤ n) (n5 : n ≤ 5) (W : List Int → Int → Int) : rkOk n (elimL n W n) = true := by
  simp only [rkOk, Bool.and_eq_true, decide_eq_true_eq, List.all_eq_true]
  refine ⟨inR_iff.2 (by omega), by rw [elimL_len], fun x hx => ?_, elim_nodup W n (Nat.le_refl _)⟩
  obtain ⟨k, hk⟩ := List.mem_iff_getElem?.1 hx
  have hlt := lt_of_at hk
  rw [elimL_len] at hlt
  rw [elim_at W hlt] at hk
  injection hk with hk
  obtain ⟨i, hi, _, e⟩ := leftL_mem.1 (elim_pick (n := n) W hlt)
  rw [hk] at e
  rw [e]
  exact inR_iff.2 (by omega)
set_option maxRecDepth 100000 in
/-- One who is never picked while others are left is the last one. -/
theorem elim_stay {n : Nat} {W : List Int → Int → Int} {a : Nat} (ha : a < n) (h : ∀ k, k + 1 < n → (a : Int) ∈ leftL n (elimL n W k) → pickV (W (leftL n (elimL n W k))) (leftL n (elimL n W k)) ≠ a) : lastI (elimL n W n) = a := by
  obtain ⟨m, rfl⟩ : ∃ m, n = m + 1 := ⟨n - 1, by omega⟩
  have key : ∀ k, k ≤ m → (a : Int) ∈ leftL (m + 1) (elimL (m + 1) W k) := by
    intro k
    induction k with
    | zero => intro _; exact leftL_mem.2 ⟨a, ha, by simp [elimL], rfl⟩
    | succ k ih =>
      intro hk
      have h1 := ih (by omega)
      have h2 := h k (by omega) h1
      obtain ⟨i, hi, hn, e⟩ := leftL_mem.1 h1
      have : i = a := by omega
      subst this
      refine leftL_mem.2 ⟨i, hi, fun hm => ?_, rfl⟩
      rw [elimL, List.mem_append] at hm
      rcases hm with hm | hm
      · exact hn hm
      · rw [List.mem_singleton] at hm
        exact h2 hm.symm
  have h1 := key m (Nat.le_refl _)
  have h2 := leftL_elim (n := m + 1) W m (by omega)
  have h3 := elim_pick (n := m + 1) W (k := m) (by omega)
  obtain ⟨x, hx⟩ := List.length_eq_one_iff.1 (show (leftL (m + 1) (elimL (m + 1) W m)).length = 1 by omega)
  rw [hx, List.mem_singleton] at h1 h3
  rw [elimL, lastI_snoc, hx, h3]
  exact h1.symm
set_option maxRecDepth 100000 in
/-- Two are left: one of them is another one. -/
theorem left_other {n : Nat} {W : List Int → Int → Int} {k : Nat} (hk : k + 1 < n) (a : Nat) : ∃ y : Nat, y < n ∧ (y : Int) ∈ leftL n (elimL n W k) ∧ y ≠ a := by
  have h2 := leftL_elim (n := n) W k (by omega)
  obtain ⟨x, hx⟩ := at_of_lt (xs := leftL n (elimL n W k)) (k := 0) (by omega)
  obtain ⟨y, hy⟩ := at_of_lt (xs := leftL n (elimL n W k)) (k := 1) (by omega)
  have hp := leftL_up n (elimL n W k)
  have hlt : x < y := by
    have l1 := lt_of_at hx
    have l2 := lt_of_at hy
    have h3 := List.pairwise_iff_getElem.1 hp 0 1 l1 l2 (by omega)
    rw [List.getElem?_eq_getElem l1] at hx
    rw [List.getElem?_eq_getElem l2] at hy
    injection hx with hx
    injection hy with hy
    rw [← hx, ← hy]
    exact h3
  have mx := List.mem_of_getElem? hx
  have my := List.mem_of_getElem? hy
  obtain ⟨i, hi, _, e1⟩ := leftL_mem.1 mx
  obtain ⟨j, hj, _, e2⟩ := leftL_mem.1 my
  subst e1
  subst e2
  by_cases e : i = a
  · exact ⟨j, hj, my, by omega⟩
  · exact ⟨i, hi, mx, e⟩
set_option maxRecDepth 100000 in
theorem notIn_iff {n : Nat} {out : List Int} {i : Nat} (hi : i < n) : notIn out i = true ↔ (i : Int) ∈ leftL n out := by
  unfold leftL
  rw [upL_mem]
  constructor
  · intro h; exact ⟨i, hi, h, rfl⟩
  · rintro ⟨j, _, h, e⟩
    have : i = j := by omega
    rw [this]; exact h

set_option maxRecDepth 100000 in
/-- Of those that are left exactly one stands first. -/
theorem first_one {n : Nat} {r : List Int} {q : Nat → Bool} (h : rkOk n r = true) {left : List Int} (hl : left = upL n q) (hne : left ≠ []) : sgN (fun i => if q i then (if fsP left i r then (1 : Int) else 0) else 0) n = 1 := by
  have hm : ∀ x ∈ left, 0 ≤ x := fun x hx => by
    rw [hl] at hx
    obtain ⟨i, _, _, e⟩ := upL_mem.1 hx
    omega
  have hpw : left.Pairwise (· < ·) := by
    rw [hl]
    unfold upL
    refine List.Pairwise.map _ (fun a b h => ?_) (List.Pairwise.filter _ List.pairwise_lt_range)
    show (a : Int) < (b : Int)
    omega
  have h1 := pickV_mem (f := placeI r) hne
  have h2 := pickV_least (f := placeI r) hm hpw
  generalize pickV (placeI r) left = p at h1 h2
  have h1' := h1
  rw [hl] at h1'
  obtain ⟨w, hw, hq, e⟩ := upL_mem.1 h1'
  subst e
  have hin : ∀ {i : Nat}, i < n → q i = true → (i : Int) ∈ left := fun {i} hi hqi => by rw [hl]; exact upL_mem.2 ⟨i, hi, hqi, rfl⟩
  have hf : fsP left w r = true := by
    unfold fsP
    rw [Bool.not_eq_true', List.any_eq_false]
    intro b hb
    have h3 := h2 b hb
    unfold prefB
    intro h4
    simp only [Bool.and_eq_true, decide_eq_true_eq] at h4
    omega
  rw [sgN_one hw (fun i hi hne2 => ?_), hq, hf]
  · rfl
  · cases hqi : q i
    · rfl
    · have h3 : fsP left i r = false := by
        unfold fsP
        rw [Bool.not_eq_false', List.any_eq_true]
        refine ⟨w, h1, ?_⟩
        have h4 := h2 i (hin hi hqi)
        obtain ⟨a, _, ea, ha, _⟩ := place_at h hi
        obtain ⟨b, _, eb, hb, _⟩ := place_at h hw
        rw [ea, eb] at h4
        have hab : a ≠ b := fun e => by
          rw [e, hb] at ha
          injection ha with ha
          omega
        unfold prefB
        rw [ea, eb]
        simp only [Bool.and_eq_true, decide_eq_true_eq]
        omega
      rw [h3]; rfl
set_option maxRecDepth 100000 in
theorem first_sum {n : Nat} {q : Nat → Bool} (hne : upL n q ≠ []) : ∀ {vs : List Vt}, SmallV n vs → sgN (fun i => if q i then worF vs (upL n q) i else 0) n = allV vs
  | [], _ => by
    rw [sgN_congr (g := fun _ => 0) (fun i _ => by unfold worF; rw [sumV_nil]; split <;> rfl), sgN_zero]; rfl
  | x :: vs, h => by
    have ih := first_sum (q := q) hne h.tail
    have h1 := first_one h.head.1 (q := q) rfl hne
    have e : sgN (fun i => if q i then worF (x :: vs) (upL n q) i else 0) n = sgN (fun i => x.2 * (if q i then (if fsP (upL n q) i x.1 then (1 : Int) else 0) else 0)) n + sgN (fun i => if q i then worF vs (upL n q) i else 0) n := by
      rw [← sgN_add]
      refine sgN_congr (fun i _ => ?_)
      unfold worF
      rw [sumV_cons]
      cases q i <;> cases fsP (upL n q) i x.1 <;> simp
    rw [e, sgN_mul, h1, ih, allV_cons]
    omega
set_option maxRecDepth 100000 in
theorem worF_nonneg {n : Int} {vs : List Vt} (hS : SmallV n vs) (left : List Int) (x : Int) : 0 ≤ worF vs left x := (sumV_bd' hS).1
set_option maxRecDepth 100000 in
theorem sumV_mono {p q : List Int → Bool} {sz : Int} : ∀ {vs : List Vt}, SmallV sz vs → (∀ x ∈ vs, p x.1 = true → q x.1 = true) → sumV p vs ≤ sumV q vs
  | [], _, _ => Int.le_refl _
  | x :: vs, hS, h => by
    have ih := sumV_mono (p := p) (q := q) hS.tail (fun y hy => h y (by simp [hy]))
    have h1 := hS.head
    have h2 := h x (by simp)
    rw [sumV_cons, sumV_cons]
    cases hp : p x.1
    · cases q x.1 <;> simp <;> omega
    · rw [h2 hp]; simp; omega
set_option maxRecDepth 100000 in
/-- Who is first of all is first of those that are left. -/
theorem fst_wor {n : Nat} {vs : List Vt} (hS : SmallV n vs) {a : Nat} (left : List Int) : fstV vs a ≤ worF vs left a := by
  unfold fstV plcV worF
  refine sumV_mono hS (fun x hx h => ?_)
  unfold plcP at h
  unfold fsP
  rw [Bool.not_eq_true', List.any_eq_false]
  intro b hb h4
  have h5 : placeI x.1 a = 0 := by
    have hx0 : x.1[0]? = some (a : Int) := by simpa using h
    unfold placeI
    exact findI_some hx0 (by simp) (by simp)
  unfold prefB at h4
  simp only [Bool.and_eq_true, decide_eq_true_eq] at h4
  omega
set_option maxRecDepth 100000 in
/-- A majority's candidate is never eliminated when first places count. -/
theorem maj_inst {n : Nat} {vs : List Vt} (hS : SmallV n vs) {a : Nat} (ha : a < n) (hm : allV vs < 2 * fstV vs a) : lastI (elimL n (worF vs) n) = a := by
  refine elim_stay ha (fun k hk hin hp => ?_)
  obtain ⟨y, hy, hyl, hya⟩ := left_other (W := worF vs) hk a
  generalize elimL n (worF vs) k = out at hin hp hyl
  have h1 := pickV_least (f := worF vs (leftL n out)) (fun x hx => leftL_pos hx) (leftL_up n out) y hyl
  rw [hp] at h1
  have h2 := fst_wor hS (a := a) (leftL n out)
  have hne : leftL n out ≠ [] := fun e => by rw [e] at hyl; simp at hyl
  have h3 := first_sum (n := n) (q := notIn out) hne hS
  have h4 : sgN (fun i => (if i = a then worF vs (leftL n out) a else 0) + (if i = y then worF vs (leftL n out) y else 0)) n ≤ sgN (fun i => if notIn out i then worF vs (upL n (notIn out)) i else 0) n := by
    refine sgN_le (fun i hi => ?_)
    have h5 := worF_nonneg hS (leftL n out) i
    by_cases e1 : i = a
    · subst e1
      rw [if_pos rfl, if_neg (fun e => hya e.symm), if_pos ((notIn_iff hi).2 hin)]
      exact Int.le_of_eq (Int.add_zero _)
    · by_cases e2 : i = y
      · subst e2
        rw [if_neg e1, if_pos rfl, if_pos ((notIn_iff hi).2 hyl)]
        exact Int.le_of_eq (Int.zero_add _)
      · rw [if_neg e1, if_neg e2]
        split
        · exact h5
        · decide
  rw [sgN_add, sgN_one (w := a) ha (fun i _ hne => if_neg hne), sgN_one (w := y) hy (fun i _ hne => if_neg hne), if_pos rfl, if_pos rfl, h3] at h4
  omega

/-- Won less lost comparisons with those that are left. -/
def difV (vs : List Vt) (n : Nat) (q : Nat → Bool) (i : Nat) : Int := sgN (fun j => if q j then pairV vs i j - pairV vs j i else 0) n
set_option maxRecDepth 100000 in
theorem dif_sum (vs : List Vt) (n : Nat) (q : Nat → Bool) : sgN (fun i => if q i then difV vs n q i else 0) n = 0 := by
  have e1 : sgN (fun i => if q i then difV vs n q i else 0) n = sgN (fun i => sgN (fun j => if q i && q j then pairV vs i j else 0) n) n - sgN (fun i => sgN (fun j => if q i && q j then pairV vs j i else 0) n) n := by
    have e2 : ∀ f g : Nat → Int, sgN f n - sgN g n = sgN (fun i => f i - g i) n := by
      intro f g
      have : ∀ m, sgN f m - sgN g m = sgN (fun i => f i - g i) m := by
        intro m
        induction m with
        | zero => rfl
        | succ m ih => rw [sgN, sgN, sgN, ← ih]; omega
      exact this n
    rw [e2]
    refine sgN_congr (fun i _ => ?_)
    rw [e2]
    cases q i
    · simp only [Bool.false_and, Bool.false_eq_true, if_false, Int.sub_self]
      exact (sgN_zero n).symm
    · simp only [Bool.true_and, if_true]
      unfold difV
      refine sgN_congr (fun j _ => ?_)
      cases q j <;> simp
  rw [e1, sgN_swap (fun i j => if q i && q j then pairV vs i j else 0)]
  have e3 : sgN (fun j => sgN (fun i => if q i && q j then pairV vs i j else 0) n) n = sgN (fun i => sgN (fun j => if q i && q j then pairV vs j i else 0) n) n := by
    refine sgN_congr (fun j _ => sgN_congr (fun i _ => ?_))
    rw [Bool.and_comm]
  rw [e3]
  omega
set_option maxRecDepth 100000 in
theorem wor_dif {n : Nat} {vs : List Vt} (hS : SmallV n vs) {q : Nat → Bool} {i : Nat} (hi : i < n) (hq : q i = true) : 2 * worP vs (upL n q) i = sgN (fun j => if q j then allV vs else 0) n - allV vs + difV vs n q i := by
  have e1 : worP vs (upL n q) i = sgN (fun j => if q j then pairV vs i j else 0) n := by
    unfold worP; rw [upL_sum (fun b => pairV vs i b)]
  have e2 : sgN (fun j => if q j then allV vs else 0) n = sgN (fun j => if q j then pairV vs i j else 0) n + sgN (fun j => if q j then pairV vs j i else 0) n + sgN (fun j => if j = i then allV vs else 0) n := by
    rw [← sgN_add, ← sgN_add]
    refine sgN_congr (fun j hj => ?_)
    by_cases e : j = i
    · subst e
      rw [if_pos hq, if_pos rfl, if_pos hq, pairW_self]
      omega
    · rw [if_neg e]
      cases q j
      · rfl
      · have := pair_tot hi hj (fun h => e h.symm) hS
        simp only [if_true]
        omega
  have e3 : difV vs n q i = sgN (fun j => if q j then pairV vs i j else 0) n - sgN (fun j => if q j then pairV vs j i else 0) n := by
    have e4 : sgN (fun j => if q j then pairV vs i j else 0) n = difV vs n q i + sgN (fun j => if q j then pairV vs j i else 0) n := by
      unfold difV
      rw [← sgN_add]
      refine sgN_congr (fun j _ => ?_)
      cases q j <;> simp
    omega
  rw [sgN_one (w := i) hi (fun j _ hne => if_neg hne), if_pos rfl] at e2
  omega
set_option maxRecDepth 100000 in
/-- One that beats all others is never eliminated by comparisons. -/
theorem win_bald {n : Nat} {vs : List Vt} (hS : SmallV n vs) {a : Nat} (ha : a < n) (hb : ∀ j, j < n → j ≠ a → bt vs a j = true) : lastI (elimL n (worP vs) n) = a := by
  refine elim_stay ha (fun k hk hin hp => ?_)
  obtain ⟨y, hy, hyl, hya⟩ := left_other (W := worP vs) hk a
  generalize elimL n (worP vs) k = out at hin hp hyl
  have hqa := (notIn_iff ha).2 hin
  have hdi : ∀ i, i < n → notIn out i = true → difV vs n (notIn out) a ≤ difV vs n (notIn out) i := fun i hi hqi => by
    have h1 := pickV_least (f := worP vs (leftL n out)) (fun x hx => leftL_pos hx) (leftL_up n out) i ((notIn_iff hi).1 hqi)
    rw [hp] at h1
    have h2 := wor_dif hS ha hqa
    have h3 := wor_dif hS hi hqi
    unfold leftL at h1
    omega
  have hpos : 0 < difV vs n (notIn out) a := by
    unfold difV
    have hlt : ∀ j, j < n → j ≠ a → pairV vs j a < pairV vs a j := fun j hj hne => by
      have := hb j hj hne
      unfold bt beatsV at this
      simpa using this
    refine sgN_pos hy (fun i hi => ?_) ?_
    · split
      · by_cases e : i = a
        · rw [e]; omega
        · have := hlt i hi e
          omega
      · decide
    · rw [if_pos ((notIn_iff hy).2 hyl)]
      have := hlt y hy hya
      omega
  have h4 := dif_sum vs n (notIn out)
  have h5 : 0 < sgN (fun i => if notIn out i then difV vs n (notIn out) i else 0) n := by
    refine sgN_pos ha (fun i hi => ?_) ?_
    · split
      · rename_i hq
        have := hdi i hi hq
        omega
      · decide
    · rw [if_pos hqa]
      exact hpos
  omega

def rouV (n : Nat) (vs : List Vt) (out : List Int) (i : Nat) : Int := if hasI out (i : Int) then -1 else worF vs (leftL n out) i
def rouOk (n : Nat) (out : List Int) : Bool := out.all (hasB n) && !decide (leftL n out = [])
def rouO (sz : Int) (vs : List Vt) (out : List Int) : List Int := if profOk sz vs && rouOk sz.toNat out then rowL sz.toNat (rouV sz.toNat vs out) else []
set_option maxRecDepth 100000 in
theorem rouO_len (sz : Int) (vs : List Vt) (out : List Int) : (rouO sz vs out).length ≤ 5 := by
  unfold rouO
  cases h0 : profOk sz vs
  · simp
  · obtain ⟨n, rfl, n1, n2⟩ := prof_nat h0
    split
    · simp [rowL_len]; omega
    · simp
set_option maxRecDepth 100000 in
theorem left_len (n : Nat) (q : Nat → Bool) : (upL n q = []) ↔ (upL n q).length = 0 := List.length_eq_zero_iff.symm

set_option maxRecDepth 100000 in
set_option maxHeartbeats 4000000 in
theorem rou_impl (w : World) (sz : Int) (a ao : Option Addr) (c co : Nat) (vs : List Vt) (out : List Int) (hR : RdV w a vs) (hO : RdI w ao out) (hol : out.length ≤ 2000000) :
    Calls Try.prog 76 #[.agg #[.int .i64 sz, .slice a vs.length c], .slice ao out.length co] w fun e w' => ∃ v, e = .returned v ∧ WrI w' w.heap.size v (rouO sz vs out) ∧ Ext w w' := by
  have q0 := new0 w (.int .i64 sz) [.slice a vs.length c] 47
  have q1 := new1 w (.int .i64 sz) (.slice a vs.length c) [] 47
  cases h0 : profOk sz vs
  · go_enter Try.func76, Try.ntmps76
    go_wp2_with (go_at_call 35; refine (prof_impl _ _ _ _ _ (hR.ext (by repeat (first | exact Ext.refl _ | assumption | refine Ext.alloc ?_ _ | refine Ext.drew ?_ | refine Ext.trans ?_ (by assumption))))).mono ?_; rintro e w1 ⟨rfl, hw1⟩; have q0 := Ext.keep (w' := w1) (by repeat (first | exact Ext.refl _ | assumption | refine Ext.alloc ?_ _ | refine Ext.drew ?_ | refine Ext.trans ?_ (by assumption))) q0; have q1 := Ext.keep (w' := w1) (by repeat (first | exact Ext.refl _ | assumption | refine Ext.alloc ?_ _ | refine Ext.drew ?_ | refine Ext.trans ?_ (by assumption))) q1)
    go_ret
    exact ⟨_, rfl, by simp [rouO, h0]; exact WrI.nil _ _ _ _, (by repeat (first | exact Ext.refl _ | assumption | refine Ext.alloc ?_ _ | refine Ext.drew ?_ | refine Ext.trans ?_ (by assumption)))⟩
  obtain ⟨n, rfl, n1, n2⟩ := prof_nat h0
  have HS := hide (prof_small h0)
  have y1 : wrap64 ((n : Int) - 1) = (n : Int) - 1 := IntWalk.wrap64_in _ (by omega)
  cases hall : out.all (hasB n)
  · have HA : Hid (out.all (fun x => inR x 0 ((n : Int) - 1)) = false) := hall
    have HN : Hid (rouO n vs out = []) := by show _ = _; simp [rouO, rouOk, hall]
    go_enter Try.func76, Try.ntmps76
    go_wp2_with (first | (go_at_call 35; refine (prof_impl _ _ _ _ _ (hR.ext (by repeat (first | exact Ext.refl _ | assumption | refine Ext.alloc ?_ _ | refine Ext.drew ?_ | refine Ext.trans ?_ (by assumption))))).mono ?_; rintro e w1 ⟨rfl, hw1⟩; have q0 := Ext.keep (w' := w1) (by repeat (first | exact Ext.refl _ | assumption | refine Ext.alloc ?_ _ | refine Ext.drew ?_ | refine Ext.trans ?_ (by assumption))) q0; have q1 := Ext.keep (w' := w1) (by repeat (first | exact Ext.refl _ | assumption | refine Ext.alloc ?_ _ | refine Ext.drew ?_ | refine Ext.trans ?_ (by assumption))) q1) | (go_at_call 132; refine (allIn_impl _ ao co out 0 _ (hO.ext (by repeat (first | exact Ext.refl _ | assumption | refine Ext.alloc ?_ _ | refine Ext.drew ?_ | refine Ext.trans ?_ (by assumption)))) hol).mono ?_; rintro e w2 ⟨rfl, hw2⟩; rw [HA.out]))
    go_ret
    exact ⟨_, rfl, by rw [HN.out]; exact WrI.nil _ _ _ _, (by repeat (first | exact Ext.refl _ | assumption | refine Ext.alloc ?_ _ | refine Ext.drew ?_ | refine Ext.trans ?_ (by assumption)))⟩
  have HA : Hid (out.all (fun x => inR x 0 ((n : Int) - 1)) = true) := hall
  have HAL := hide hall
  clear hall
  go_enter Try.func76, Try.ntmps76
  go_wp2_with (first | (go_at_call 35; refine (prof_impl _ _ _ _ _ (hR.ext (by repeat (first | exact Ext.refl _ | assumption | refine Ext.alloc ?_ _ | refine Ext.drew ?_ | refine Ext.trans ?_ (by assumption))))).mono ?_; rintro e w1 ⟨rfl, hw1⟩; have q0 := Ext.keep (w' := w1) (by repeat (first | exact Ext.refl _ | assumption | refine Ext.alloc ?_ _ | refine Ext.drew ?_ | refine Ext.trans ?_ (by assumption))) q0; have q1 := Ext.keep (w' := w1) (by repeat (first | exact Ext.refl _ | assumption | refine Ext.alloc ?_ _ | refine Ext.drew ?_ | refine Ext.trans ?_ (by assumption))) q1) | (go_at_call 132; refine (allIn_impl _ ao co out 0 _ (hO.ext (by repeat (first | exact Ext.refl _ | assumption | refine Ext.alloc ?_ _ | refine Ext.drew ?_ | refine Ext.trans ?_ (by assumption)))) hol).mono ?_; rintro e w2 ⟨rfl, hw2⟩; rw [HA.out]; have q0 := hw2.keep q0; have q1 := hw2.keep q1))
  have hw : Ext w w2 := (by repeat (first | exact Ext.refl _ | assumption | refine Ext.alloc ?_ _ | refine Ext.drew ?_ | refine Ext.trans ?_ (by assumption)))
  have hR0 := hR.ext hw
  have hO0 := hO.ext hw
  obtain ⟨wb, hwb⟩ : ∃ wb : World, wb = w2 := ⟨_, rfl⟩
  subst hwb
  go_loopw [5, 6, 23] (fun v _ i wr => ∃ k : Nat, k ≤ n ∧ i = .int .i64 k ∧ OwnI wr wb.heap.size v (upL k (notIn out)) ∧ Ext wb wr) (fun _ _ i _ => n - (intOf i).toNat)
  case atStart => exact ⟨0, Nat.zero_le _, rfl, OwnI.nil _ _, Ext.refl _⟩
  case round =>
    obtain ⟨k, hk, rfl, hown, hwr⟩ := hrel
    have r0 := hwr.keep q0
    have r1 := hwr.keep q1
    have hOr := hO0.ext hwr
    have hul := upL_len k (notIn out)
    by_cases hlt : k < n
    · cases ho : hasI out (k : Int)
      · have hnx : upL (k + 1) (notIn out) = upL k (notIn out) ++ [(k : Int)] := by rw [upL_succ]; simp [notIn, ho]
        have HN := hide hnx
        clear hnx
        go_wp2_with (first | (go_at_call 99; refine (containsI _ _ _ _ _ (RdI.rdB (hOr.ext (by repeat (first | exact Ext.refl _ | assumption | refine Ext.alloc ?_ _ | refine Ext.drew ?_ | refine Ext.trans ?_ (by assumption)))) _ _ rfl) hol).mono ?_; rintro e w1 ⟨rfl, hw1⟩) | (at_builtin; refine wpList_appI wb _ rfl _ _ rfl _ (upL k (notIn out)) _ rfl (hown.ext (by repeat (first | exact Ext.refl _ | assumption | refine Ext.alloc ?_ _ | refine Ext.drew ?_ | refine Ext.trans ?_ (by assumption)))) (by repeat (first | exact Ext.refl _ | assumption | refine Ext.alloc ?_ _ | refine Ext.drew ?_ | refine Ext.trans ?_ (by assumption))) rfl (by omega) ?_; intro v' w3 hown3 hw3))
        exact ⟨⟨k + 1, by omega, by go_num, by rw [HN.out]; exact hown3, (by repeat (first | exact Ext.refl _ | assumption | refine Ext.alloc ?_ _ | refine Ext.drew ?_ | refine Ext.trans ?_ (by assumption)))⟩, by simp [intOf]; omega⟩
      · have hnx : upL (k + 1) (notIn out) = upL k (notIn out) := by rw [upL_succ]; simp [notIn, ho]
        have HN := hide hnx
        clear hnx
        go_wp2_with (go_at_call 99; refine (containsI _ _ _ _ _ (RdI.rdB (hOr.ext (by repeat (first | exact Ext.refl _ | assumption | refine Ext.alloc ?_ _ | refine Ext.drew ?_ | refine Ext.trans ?_ (by assumption)))) _ _ rfl) hol).mono ?_; rintro e w1 ⟨rfl, hw1⟩)
        exact ⟨⟨k + 1, by omega, by go_num, by rw [HN.out]; exact hown.ext hw1, (by repeat (first | exact Ext.refl _ | assumption | refine Ext.alloc ?_ _ | refine Ext.drew ?_ | refine Ext.trans ?_ (by assumption)))⟩, by simp [intOf]; omega⟩
    · have hkn : k = n := by omega
      rw [hkn] at hown
      clear hkn hul
      obtain ⟨left, hleft⟩ : ∃ left, left = leftL n out := ⟨_, rfl⟩
      have hown' : OwnI wr wb.heap.size u5 left := by rw [hleft]; exact hown
      have hbds : ∀ y ∈ left, ∃ i : Nat, i < n ∧ y = i := fun y hy => by
        rw [hleft] at hy
        obtain ⟨i, hi, _, rfl⟩ := leftL_mem.1 hy
        exact ⟨i, hi, rfl⟩
      have hlen5 : left.length ≤ n := by rw [hleft]; exact leftL_len
      obtain ⟨a5, L, c5, rfl, hL, hR5⟩ := hown'.formR'
      have HLF := hide hleft
      have HBD := hide hbds
      have HL := hide hL
      have hL5 : L ≤ n := by omega
      clear hown hown' hleft hbds hL hlen5
      by_cases hz : L = 0
      · subst hz
        go_wp2
        go_ret
        refine ⟨_, rfl, ?_, hw.trans hwr⟩
        have : leftL n out = [] := by rw [← HLF.out]; exact List.length_eq_zero_iff.1 HL.out.symm
        simp only [rouO, rouOk, Int.toNat_natCast, this, decide_true, Bool.not_true, Bool.and_false, if_false, Bool.false_eq_true]
        exact WrI.nil _ _ _ _
      · have hz2 : ((L : Int) == 0) = false := by simp; omega
        have hok : rouO n vs out = rowL n (rouV n vs out) := by
          have : ¬ leftL n out = [] := fun e => hz (by rw [HL.out, HLF.out, e]; rfl)
          simp [rouO, rouOk, h0, HAL.out, this]
        have HO := hide hok
        clear hok
        go_wp2_with fail
        refine (rep_impl _ _ _ _ _ n n1 n2 (new0 wr _ _ _)).mono ?_
        rintro e w3 ⟨g, rfl, hg, hB, hw3⟩
        have hwc : Ext wb w3 := (by repeat (first | exact Ext.refl _ | assumption | refine Ext.alloc ?_ _ | refine Ext.drew ?_ | refine Ext.trans ?_ (by assumption)))
        have hgb : wb.heap.size ≤ g := Nat.le_trans (Ext.size (show Ext wb (wr.alloc (.cells #[.int .i64 (-1)] 3)) from (by repeat (first | exact Ext.refl _ | assumption | refine Ext.alloc ?_ _ | refine Ext.drew ?_ | refine Ext.trans ?_ (by assumption))))) hg
        have hne5 : left ≠ [] := fun e => hz (by rw [HL.out, e]; rfl)
        have hlt5 : ∀ b off, a5 = some ⟨b, off, none⟩ → b < g := fun b off ha => by
          obtain ⟨a6, c6, e6, _, hb6⟩ := hR5.rdB L c5 HL.out.symm
          injection e6 with e6
          have h1 := hb6 b off (by rw [← e6]; exact ha) hne5
          have h2 : wr.heap.size ≤ g := Nat.le_trans (by simp) hg
          omega
        have HLT := hide hlt5
        clear hlt5
        have hR5 := hR5.ext hw3.a
        have hB := hB.congr (f' := fun o => .int .i64 (if hasI (left.take 0) (o : Int) then worF vs left o else -1)) (fun o _ => by simp [hasI])
        obtain ⟨wc, hwcc⟩ : ∃ wc : World, wc = w3 := ⟨_, rfl⟩
        subst hwcc
        go_wp2_with fail
        go_loopw [9, 44] (fun _ i wr => ∃ j : Nat, j ≤ L ∧ i = .int .i64 j ∧ BlkF wr g n (fun o => .int .i64 (if hasI (left.take j) (o : Int) then worF vs left o else -1)) ∧ Ext wb wr ∧ RdI wr a5 left) (fun _ i _ => L - (intOf i).toNat)
        case atStart => exact ⟨0, Nat.zero_le _, rfl, hB, hwc, hR5⟩
        case round =>
          clear hB hwc hR5 r0 r1
          obtain ⟨j, hj, rfl, hB, hwc, hR5⟩ := hrel
          have r0 := hwc.keep q0
          have r1 := hwc.keep q1
          have hRr := hR0.ext hwc
          by_cases hjt : j < L
          · obtain ⟨x, hx⟩ := at_of_lt (xs := left) (k := j) (by rw [← HL.out]; exact hjt)
            obtain ⟨b, off, rfl, d0⟩ := hR5.at_ hx
            obtain ⟨i, hi, rfl⟩ := HBD.out x (List.mem_of_getElem? hx)
            have hnx : ∀ o : Nat, hasI (left.take (j + 1)) (o : Int) = (hasI (left.take j) (o : Int) || decide (o = i)) := fun o => by
              rw [take_at hx, Bool.eq_iff_iff, hasI_iff, Bool.or_eq_true, hasI_iff, decide_eq_true_eq, List.mem_append, List.mem_singleton]
              constructor
              · rintro (h | h)
                · exact .inl h
                · exact .inr (by omega)
              · rintro (h | h)
                · exact .inl h
                · exact .inr (by omega)
            have HN := hide hnx
            have HC : Hid (∀ w', Ext wr w' → Calls Try.prog 160 #[.agg #[.int .i64 n, .slice a vs.length c], .slice (some ⟨b, off, none⟩) L c5, .int .i64 (i : Int)] w' fun e w'' => e = .returned (.int .i64 (worF vs left i)) ∧ Ext w' w'') := fun w' hw' => by
              have h := first_impl w' n a (some ⟨b, off, none⟩) c c5 vs left i (hRr.ext hw') HS.out (hR5.ext hw') (by rw [← HL.out]; omega)
              rw [← HL.out] at h
              exact h
            have d1 := hB.cell i hi
            have z1 := hB.fr i
            have HB := hide hB
            clear hnx hx hB
            go_wp2_with fail
            refine (HC.out _ (by repeat (first | exact Ext.refl _ | assumption | refine Ext.alloc ?_ _ | refine Ext.drew ?_ | refine Ext.trans ?_ (by assumption)))).mono ?_
            rintro e w4 ⟨rfl, hw4⟩
            have d1 := hw4.keep d1
            have z1 : w4.frozen? ⟨g, i, none⟩ = false := ((hw4.frozenS _ (by rw [HB.out.cell i hi]; rfl)).trans z1)
            go_wp2
            refine ⟨⟨j + 1, by omega, by go_num, ((HB.out.ext hw4).set i hi _).congr (fun o ho => ?_), Ext.setCell (hwc.trans hw4) hgb _, ?_⟩, by simp [intOf]; omega⟩
            · rw [HN.out]
              by_cases e : o = i
              · subst e; rw [if_pos rfl, if_pos (by simp)]
              · rw [if_neg e]
                simp [e]
            · exact ((Only.refl g w4).setCell i _).rdI (hR5.ext hw4) (fun b' off' e => by have := HLT.out b' off' e; omega)
          · have hjL : j = L := by omega
            go_wp2
            go_ret
            refine ⟨_, rfl, ?_, hw.trans hwc⟩
            rw [HO.out]
            refine hB.wrI (rowL_len _ _) (fun o x hx => ?_) (Nat.le_trans hw.size hgb) (Nat.le_refl _)
            obtain ⟨ho, rfl⟩ := rowL_val hx
            rw [hjL, List.take_of_length_le (by rw [← HL.out]; omega)]
            unfold rouV
            cases h1 : hasI out (o : Int)
            · have h2 : hasI left (o : Int) = true := by
                rw [hasI_iff, HLF.out, leftL_mem]
                exact ⟨o, ho, (fun h => by rw [hasI_iff.2 h] at h1; cases h1), rfl⟩
              rw [if_pos h2, if_neg (by decide), ← HLF.out]
            · have h2 : ¬ (hasI left (o : Int) = true) := by
                rw [hasI_iff, HLF.out, leftL_mem]
                rintro ⟨i, _, hio, e⟩
                have : i = o := by omega
                subst this
                exact hio (hasI_iff.1 h1)
              rw [if_neg h2, if_pos rfl]

end Go.Proofs.Ythiojkpoeejkaaa
