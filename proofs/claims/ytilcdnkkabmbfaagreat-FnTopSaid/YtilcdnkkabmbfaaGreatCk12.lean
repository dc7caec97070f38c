/- The greatest numbers of a list, and where they stand. The level and the winner of Bucklin's rule. The winner of Bucklin's rule. Strengths of paths, as tables that are improved cell by cell. Strengths of paths on both sides. -/
import Derived.Test.YtilcdnkkabmbfaaGreatCk3
import Derived.Test.YtilcdnkkabmbfaaGreatCk5
import Derived.Test.YtilcdnkkabmbfaaGreatCk6
import Derived.Test.YtilcdnkkabmbfaaGreatCk8
namespace Go.Proofs.YtilcdnkkabmbfaaGreat
open Go.RowKit

def maxL : List Int → Int
  | [] => 0
  | x :: xs => xs.foldl max x
set_option maxRecDepth 100000 in
theorem maxL_snoc {ys : List Int} (x : Int) (h : ys ≠ []) : maxL (ys ++ [x]) = max (maxL ys) x := by
  cases ys with
  | nil => exact absurd rfl h
  | cons y ys => simp [maxL]
set_option maxRecDepth 100000 in
theorem maxL_at {xs : List Int} {k : Nat} {x : Int} (h : xs[k]? = some x) (hk : 1 ≤ k) : maxL (xs.take (k + 1)) = max (maxL (xs.take k)) x := by
  rw [take_at h]
  exact maxL_snoc x (fun e => by
    have := lt_of_at h
    have h2 : (xs.take k).length = 0 := by rw [e]; rfl
    rw [List.length_take] at h2; omega)
set_option maxRecDepth 100000 in
theorem foldl_ge (xs : List Int) : ∀ x, x ≤ xs.foldl max x ∧ ∀ y ∈ xs, y ≤ xs.foldl max x := by
  induction xs with
  | nil => intro x; simp
  | cons z xs ih =>
    intro x
    have h := ih (max x z)
    simp only [List.foldl_cons]
    refine ⟨by omega, fun y hy => ?_⟩
    rcases List.mem_cons.1 hy with rfl | hy
    · omega
    · exact h.2 y hy
set_option maxRecDepth 100000 in
theorem maxL_ge {xs : List Int} {x : Int} (h : x ∈ xs) : x ≤ maxL xs := by
  cases xs with
  | nil => cases h
  | cons z xs =>
    rcases List.mem_cons.1 h with rfl | h
    · exact (foldl_ge xs x).1
    · exact (foldl_ge xs z).2 x h
set_option maxRecDepth 100000 in
theorem foldl_mem (xs : List Int) : ∀ x, xs.foldl max x = x ∨ xs.foldl max x ∈ xs := by
  induction xs with
  | nil => intro x; exact .inl rfl
  | cons z xs ih =>
    intro x
    simp only [List.foldl_cons]
    rcases ih (max x z) with h | h
    · rw [h]
      by_cases e : x ≤ z
      · right; rw [show max x z = z by omega]; simp
      · left; omega
    · right; exact List.mem_cons_of_mem _ h
set_option maxRecDepth 100000 in
theorem maxL_mem {xs : List Int} (h : xs ≠ []) : maxL xs ∈ xs := by
  cases xs with
  | nil => exact absurd rfl h
  | cons z xs =>
    rcases foldl_mem xs z with h | h
    · show xs.foldl max z ∈ _
      rw [h]; simp
    · exact List.mem_cons_of_mem _ h

def isMax (xs : List Int) (m : Int) (i : Nat) : Bool := decide (xs[i]? = some m)
def bestL (xs : List Int) : List Int := upL xs.length (isMax xs (maxL xs))
/-- The best of the first k. -/
def bestT (xs : List Int) (k : Nat) : List Int := upL k (isMax xs (maxL (xs.take k)))
set_option maxRecDepth 100000 in
theorem bestT_all (xs : List Int) : bestT xs xs.length = bestL xs := by unfold bestT bestL; rw [List.take_length]
set_option maxRecDepth 100000 in
theorem bestT_len (xs : List Int) (k : Nat) : (bestT xs k).length ≤ k := upL_len _ _
set_option maxRecDepth 100000 in
theorem upL_none' {n : Nat} {q : Nat → Bool} (h : ∀ j, j < n → q j = false) : upL n q = [] := by
  unfold upL
  rw [List.map_eq_nil_iff, List.filter_eq_nil_iff]
  intro x hx
  rw [h x (List.mem_range.1 hx)]; simp
set_option maxRecDepth 100000 in
theorem bestT_new {xs : List Int} {k : Nat} {x : Int} (hx : xs[k]? = some x) (h : k = 0 ∨ maxL (xs.take k) < x) : bestT xs (k + 1) = [(k : Int)] := by
  have hm : maxL (xs.take (k + 1)) = x := by
    rcases h with rfl | h
    · rw [take_at hx]; simp [maxL]
    · by_cases hk : k = 0
      · subst hk; rw [take_at hx]; simp [maxL]
      · rw [maxL_at hx (by omega)]; omega
  unfold bestT
  rw [hm, upL_succ, upL_none' (fun j hj => ?_)]
  · simp [isMax, hx]
  · unfold isMax
    rw [decide_eq_false_iff_not]
    intro e
    have h1 : x ∈ xs.take k := by rw [List.mem_iff_getElem?]; exact ⟨j, by rw [List.getElem?_take_of_lt hj]; exact e⟩
    have h2 := maxL_ge h1
    omega
set_option maxRecDepth 100000 in
theorem bestT_tie {xs : List Int} {k : Nat} {x : Int} (hx : xs[k]? = some x) (hk : 1 ≤ k) (h : x = maxL (xs.take k)) : bestT xs (k + 1) = bestT xs k ++ [(k : Int)] := by
  have hm : maxL (xs.take (k + 1)) = maxL (xs.take k) := by rw [maxL_at hx hk]; omega
  unfold bestT
  rw [hm, upL_succ]
  simp [isMax, hx, h]
set_option maxRecDepth 100000 in
theorem bestT_not {xs : List Int} {k : Nat} {x : Int} (hx : xs[k]? = some x) (hk : 1 ≤ k) (h : x < maxL (xs.take k)) : bestT xs (k + 1) = bestT xs k := by
  have hm : maxL (xs.take (k + 1)) = maxL (xs.take k) := by rw [maxL_at hx hk]; omega
  have hne : ¬ x = maxL (xs.take k) := by omega
  unfold bestT
  rw [hm, upL_succ]
  simp [isMax, hx, hne]
set_option maxRecDepth 100000 in
theorem bestT_head {xs : List Int} {k : Nat} (hk : 1 ≤ k) (hl : k ≤ xs.length) : ∃ (i : Nat) (r : List Int), bestT xs k = (i : Int) :: r ∧ xs[i]? = some (maxL (xs.take k)) ∧ i < k ∧ ∀ j, j < i → xs[j]? ≠ some (maxL (xs.take k)) := by
  have hne : xs.take k ≠ [] := fun e => by
    have h2 : (xs.take k).length = 0 := by rw [e]; rfl
    rw [List.length_take] at h2; omega
  obtain ⟨i, hi⟩ := List.mem_iff_getElem?.1 (maxL_mem hne)
  have hik : i < k := by have := lt_of_at hi; rw [List.length_take] at this; omega
  rw [List.getElem?_take_of_lt hik] at hi
  have hq : isMax xs (maxL (xs.take k)) i = true := by simp [isMax, hi]
  unfold bestT
  generalize maxL (xs.take k) = m at hi hq ⊢
  clear hne hk hl
  induction k with
  | zero => omega
  | succ k ih =>
    by_cases hlt : i < k
    · obtain ⟨i0, r, h1, h2⟩ := ih hlt
      rw [upL_succ, h1]
      exact ⟨i0, r ++ _, rfl, h2.1, by omega, h2.2.2⟩
    · have hik : i = k := by omega
      subst hik
      by_cases hall : ∀ j, j < i → isMax xs m j = false
      · rw [upL_succ, upL_none' hall, hq]
        exact ⟨i, [], rfl, hi, by omega, fun j hj e => by have := hall j hj; simp [isMax, e] at this⟩
      · have : ∃ j, j < i ∧ isMax xs m j = true := by
          apply Classical.byContradiction
          intro hno
          exact hall (fun j hj => by
            cases h : isMax xs m j
            · rfl
            · exact absurd ⟨j, hj, h⟩ hno)
        obtain ⟨j, hj, hq2⟩ := this
        have key : ∀ k j, j < k → isMax xs m j = true → ∃ (i : Nat) (r : List Int), upL k (isMax xs m) = (i : Int) :: r ∧ xs[i]? = some m ∧ i < k ∧ ∀ j, j < i → xs[j]? ≠ some m := by
          intro k
          induction k with
          | zero => intro j hj; omega
          | succ k ih2 =>
            intro j hj hqj
            by_cases hex : ∃ j', j' < k ∧ isMax xs m j' = true
            · obtain ⟨j', hj', hq'⟩ := hex
              obtain ⟨i0, r, h1, h2, h3, h4⟩ := ih2 j' hj' hq'
              rw [upL_succ, h1]
              exact ⟨i0, r ++ _, rfl, h2, by omega, h4⟩
            · have hno : ∀ j', j' < k → isMax xs m j' = false := fun j' hj' => by
                cases h : isMax xs m j'
                · rfl
                · exact absurd ⟨j', hj', h⟩ hex
              have hjk : j = k := by
                rcases Nat.lt_or_ge j k with h | h
                · rw [hno j h] at hqj; cases hqj
                · omega
              subst hjk
              rw [upL_succ, upL_none' hno, hqj]
              exact ⟨j, [], rfl, by simpa [isMax] using hqj, by omega, fun j' hj' e => by have := hno j' hj'; simp [isMax, e] at this⟩
        exact key (i + 1) j (by omega) hq2

set_option maxRecDepth 100000 in
theorem OwnI.lit1 (w : World) (y : Int) : OwnI (w.alloc (.cells #[.int .i64 y] 3)) w.heap.size (.slice (some ⟨w.heap.size, 0, none⟩) 1 1) [y] :=
  ⟨rfl, .inr ⟨w.heap.size, 1, #[.int .i64 y], rfl, Nat.le_refl _, heap_alloc_new _ _, Nat.le_refl _, by simp [maxLen], rfl, rfl⟩⟩
set_option maxRecDepth 100000 in
theorem max_if (x y : Int) : (if x < y then y else x) = max x y := by split <;> omega
set_option maxRecDepth 100000 in
theorem max_if' (x y : Int) : (if y < x then x else y) = max x y := by split <;> omega

set_option maxRecDepth 100000 in
set_option maxHeartbeats 1000000 in
theorem max_impl (w : World) (a : Option Addr) (c : Nat) (xs : List Int) (hR : RdI w a xs) (hl : xs.length ≤ 2000000) (hne : 1 ≤ xs.length) :
    Calls Tryz.prog 86 #[.slice a xs.length c] w fun e w' => e = .returned (.int .i64 (maxL xs)) ∧ Ext w w' := by
  obtain ⟨x, hx⟩ := at_of_lt (xs := xs) (k := 0) (by omega)
  obtain ⟨b, off, rfl, c0⟩ := hR.at_ hx
  rw [Nat.add_zero] at c0
  have h1 : x = maxL (xs.take 1) := by
    cases xs with
    | nil => simp at hx
    | cons y ys => simp at hx; subst hx; simp [maxL]
  have H1 := hide h1
  clear hx h1
  go_enter Tryz.func86, Tryz.ntmps86
  go_wp2_with fail
  rw [H1.out]
  go_loopw [3, 4] (fun s i wr => ∃ k : Nat, 1 ≤ k ∧ k ≤ xs.length ∧ i = .int .i64 k ∧ s = .int .i64 (maxL (xs.take k)) ∧ Ext w wr) (fun _ i _ => xs.length - (intOf i).toNat)
  case atStart => exact ⟨1, by omega, hne, rfl, rfl, Ext.refl _⟩
  case round =>
    obtain ⟨k, hk1, hk, rfl, rfl, hwr⟩ := hrel
    by_cases hlt : k < xs.length
    · obtain ⟨y, hy⟩ := at_of_lt hlt
      obtain ⟨b', off', hb, c1⟩ := (hR.ext hwr).at_ hy
      injection hb with hb
      injection hb with hb hb2
      subst hb
      subst hb2
      have HY := hide hy
      clear hy
      go_wp2
      exact ⟨⟨k + 1, by omega, by omega, by go_num, by rw [maxL_at HY.out hk1]; first | rw [← max_if] | rw [← max_if'], (by repeat (first | exact Ext.refl _ | assumption | refine Ext.alloc ?_ _ | refine Ext.drew ?_ | refine Ext.trans ?_ (by assumption)))⟩, by simp [intOf]; omega⟩
    · go_wp2
      go_ret
      exact ⟨ret_int (by rw [List.take_of_length_le (by omega)]), hwr⟩

set_option maxRecDepth 100000 in
set_option maxHeartbeats 1000000 in
theorem gr_impl (w : World) (a : Option Addr) (c : Nat) (xs : List Int) (hR : RdI w a xs) (hl : xs.length ≤ 1000000) :
    Calls Tryz.prog 41 #[.slice a xs.length c] w fun e w' => ∃ v, e = .returned v ∧ OwnI w' w.heap.size v (bestL xs) ∧ Ext w w' := by
  go_enter Tryz.func41, Tryz.ntmps41
  go_wp2_with fail
  go_loopw [3, 4, 5, 8] (fun v _ _ i wr => ∃ k : Nat, k ≤ xs.length ∧ i = .int .i64 k ∧ OwnI wr w.heap.size v (upL k (isMax xs (maxL xs))) ∧ Ext w wr) (fun _ _ _ i _ => xs.length - (intOf i).toNat)
  case atStart => exact ⟨0, Nat.zero_le _, rfl, OwnI.nil _ _, Ext.refl _⟩
  case round =>
    obtain ⟨k, hk, rfl, hown, hwr⟩ := hrel
    have hul := upL_len k (isMax xs (maxL xs))
    by_cases hlt : k < xs.length
    · obtain ⟨y, hy⟩ := at_of_lt hlt
      obtain ⟨b', off', rfl, c1⟩ := (hR.ext hwr).at_ hy
      have HY := hide hy
      clear hy
      cases hq : (y == maxL xs)
      · go_wp2_with (go_at_call 86; refine (max_impl _ _ _ _ (hR.ext (by repeat (first | exact Ext.refl _ | assumption | refine Ext.alloc ?_ _ | refine Ext.drew ?_ | refine Ext.trans ?_ (by assumption)))) (by omega) (by omega)).mono ?_; rintro e w1 ⟨rfl, hw1⟩)
        exact ⟨⟨k + 1, by omega, by go_num, by rw [upL_succ, show isMax xs (maxL xs) k = false by simp only [isMax, HY.out]; simpa using hq]; simpa using hown.ext hw1, (by repeat (first | exact Ext.refl _ | assumption | refine Ext.alloc ?_ _ | refine Ext.drew ?_ | refine Ext.trans ?_ (by assumption)))⟩, by simp [intOf]; omega⟩
      · go_wp2_with (first | (go_at_call 86; refine (max_impl _ _ _ _ (hR.ext (by repeat (first | exact Ext.refl _ | assumption | refine Ext.alloc ?_ _ | refine Ext.drew ?_ | refine Ext.trans ?_ (by assumption)))) (by omega) (by omega)).mono ?_; rintro e w1 ⟨rfl, hw1⟩) | (at_builtin; refine wpList_appI w _ rfl _ _ rfl _ (upL k (isMax xs (maxL xs))) _ rfl (hown.ext (by repeat (first | exact Ext.refl _ | assumption | refine Ext.alloc ?_ _ | refine Ext.drew ?_ | refine Ext.trans ?_ (by assumption)))) (by repeat (first | exact Ext.refl _ | assumption | refine Ext.alloc ?_ _ | refine Ext.drew ?_ | refine Ext.trans ?_ (by assumption))) rfl (by omega) ?_; intro v' w3 hown3 hw3))
        exact ⟨⟨k + 1, by omega, by go_num, by rw [upL_succ, show isMax xs (maxL xs) k = true by simp only [isMax, HY.out]; simpa using hq]; exact hown3, (by repeat (first | exact Ext.refl _ | assumption | refine Ext.alloc ?_ _ | refine Ext.drew ?_ | refine Ext.trans ?_ (by assumption)))⟩, by simp [intOf]; omega⟩
    · have hkl : k = xs.length := by omega
      go_wp2
      go_ret
      rw [hkl] at hown
      exact ⟨_, rfl, hown, hwr⟩

def bukA (vs : List Vt) (k a : Nat) : Bool := decide (allV vs < 2 * wthV vs k a)
def bukN (n : Nat) (vs : List Vt) (k : Nat) : Bool := allN n (fun a => !bukA vs k a)
def levV (n : Nat) (vs : List Vt) : Nat := match (List.range n).find? (fun j => !bukN n vs (j + 1)) with
  | some j => j + 1
  | none => 0
set_option maxRecDepth 100000 in
theorem levV_at {n : Nat} {vs : List Vt} {j : Nat} (hj : j < n) (h : ∀ i, i < j → bukN n vs (i + 1) = true) (hh : bukN n vs (j + 1) = false) : levV n vs = j + 1 := by
  have e : (List.range n).find? (fun j => !bukN n vs (j + 1)) = some j := by
    rw [List.find?_range_eq_some]
    exact ⟨by simp [hh], List.mem_range.2 hj, fun i hi => by simp [h i hi]⟩
  unfold levV; rw [e]
set_option maxRecDepth 100000 in
theorem levV_none {n : Nat} {vs : List Vt} (h : ∀ i, i < n → bukN n vs (i + 1) = true) : levV n vs = 0 := by
  have e : (List.range n).find? (fun j => !bukN n vs (j + 1)) = none := by
    rw [List.find?_range_eq_none]
    exact fun i hi => by simp [h i hi]
  unfold levV; rw [e]
set_option maxRecDepth 100000 in
theorem levV_le (n : Nat) (vs : List Vt) : levV n vs ≤ n := by
  unfold levV
  cases e : (List.range n).find? (fun j => !bukN n vs (j + 1)) with
  | none => simp
  | some j =>
    have := List.mem_of_find?_eq_some e
    have := List.mem_range.1 this
    simp; omega
def levO (sz : Int) (vs : List Vt) : Int := if profOk sz vs then (levV sz.toNat vs : Int) else -1
def bukO (sz : Int) (vs : List Vt) : Int := if profOk sz vs then (bestL (rowL sz.toNat (wthV vs (levV sz.toNat vs)))).headD 0 else -1

set_option maxRecDepth 100000 in
theorem wth_full {n : Nat} {vs : List Vt} (hS : SmallV n vs) {a : Nat} (ha : a < n) : wthV vs n a = allV vs := by
  unfold wthV allV
  exact sumV_congr fun x hx => by
    obtain ⟨p, hp, hpl, _⟩ := place_at (hS.2 x hx).1 ha
    simp only [wthP, hpl, decide_eq_true_eq]; omega
set_option maxRecDepth 100000 in
theorem allV_pos {n : Int} : ∀ {vs : List Vt}, SmallV n vs → vs ≠ [] → 1 ≤ allV vs
  | [], _, h => absurd rfl h
  | x :: vs, hS, _ => by
    have h1 := (hS.2 x (by simp)).2.1
    have h2 : 0 ≤ allV vs ∧ _ := sumV_bd' hS.tail (p := fun _ => true)
    have h3 : allV (x :: vs) = x.2 + allV vs := by unfold allV; rw [sumV_cons]; simp
    omega
set_option maxRecDepth 100000 in
theorem buk_end {n : Nat} {vs : List Vt} (hS : SmallV n vs) (n1 : 1 ≤ n) (hne : vs ≠ []) : bukN n vs n = false := by
  refine allN_f (k := 0) n1 ?_
  have h1 := wth_full hS (a := 0) n1
  have h2 := allV_pos hS hne
  simp only [bukA, h1, Bool.not_eq_false', decide_eq_true_eq]; omega

set_option maxRecDepth 100000 in
theorem max_buk {n : Nat} {vs : List Vt} (n1 : 1 ≤ n) (k : Nat) : (2 * maxL (rowL n (wthV vs k)) ≤ allV vs) ↔ bukN n vs k = true := by
  have hne : rowL n (wthV vs k) ≠ [] := fun e => by have := rowL_len n (wthV vs k); rw [e] at this; simp at this; omega
  constructor
  · intro h
    refine allN_t fun j hj => ?_
    have h1 := maxL_ge (List.mem_of_getElem? (rowL_at (f := wthV vs k) hj))
    simp only [bukA, Bool.not_eq_true', decide_eq_false_iff_not]; omega
  · intro h
    obtain ⟨j, hj⟩ := List.mem_iff_getElem?.1 (maxL_mem hne)
    obtain ⟨hjn, e⟩ := rowL_val hj
    have h1 := allN_iff.1 h j hjn
    simp only [bukA, Bool.not_eq_true', decide_eq_false_iff_not] at h1
    rw [e]; omega

set_option maxRecDepth 100000 in
set_option maxHeartbeats 2000000 in
theorem levO_impl (w : World) (sz : Int) (a : Option Addr) (c : Nat) (vs : List Vt) (hR : RdV w a vs) :
    Calls Tryz.prog 100 #[.agg #[.int .i64 sz, .slice a vs.length c]] w fun e w' => e = .returned (.int .i64 (levO sz vs)) ∧ Ext w w' := by
  have q0 := new0 w (.int .i64 sz) [.slice a vs.length c] 29
  have q1 := new1 w (.int .i64 sz) (.slice a vs.length c) [] 29
  cases h0 : profOk sz vs
  · go_enter Tryz.func100, Tryz.ntmps100
    go_wp2_with (go_at_call 36; refine (prof_impl _ _ _ _ _ (hR.ext (by repeat (first | exact Ext.refl _ | assumption | refine Ext.alloc ?_ _ | refine Ext.drew ?_ | refine Ext.trans ?_ (by assumption))))).mono ?_; rintro e w1 ⟨rfl, hw1⟩; have q0 := Ext.keep (w' := w1) (by repeat (first | exact Ext.refl _ | assumption | refine Ext.alloc ?_ _ | refine Ext.drew ?_ | refine Ext.trans ?_ (by assumption))) q0; have q1 := Ext.keep (w' := w1) (by repeat (first | exact Ext.refl _ | assumption | refine Ext.alloc ?_ _ | refine Ext.drew ?_ | refine Ext.trans ?_ (by assumption))) q1)
    go_ret
    exact ⟨ret_int (by simp [levO, h0]), (by repeat (first | exact Ext.refl _ | assumption | refine Ext.alloc ?_ _ | refine Ext.drew ?_ | refine Ext.trans ?_ (by assumption)))⟩
  obtain ⟨n, rfl, n1, n2⟩ := prof_nat h0
  have HP := hide h0
  have HS := hide (prof_small h0)
  have hl24 := (prof_small h0).1
  by_cases hz : vs = []
  · have hz2 : ((vs.length : Int) == 0) = true := by rw [hz]; rfl
    have HZ := hide hz
    clear hz
    go_enter Tryz.func100, Tryz.ntmps100
    go_wp2_with (go_at_call 36; refine (prof_impl _ _ _ _ _ (hR.ext (by repeat (first | exact Ext.refl _ | assumption | refine Ext.alloc ?_ _ | refine Ext.drew ?_ | refine Ext.trans ?_ (by assumption))))).mono ?_; rintro e w1 ⟨rfl, hw1⟩; have q0 := Ext.keep (w' := w1) (by repeat (first | exact Ext.refl _ | assumption | refine Ext.alloc ?_ _ | refine Ext.drew ?_ | refine Ext.trans ?_ (by assumption))) q0; have q1 := Ext.keep (w' := w1) (by repeat (first | exact Ext.refl _ | assumption | refine Ext.alloc ?_ _ | refine Ext.drew ?_ | refine Ext.trans ?_ (by assumption))) q1)
    go_ret
    refine ⟨ret_int ?_, (by repeat (first | exact Ext.refl _ | assumption | refine Ext.alloc ?_ _ | refine Ext.drew ?_ | refine Ext.trans ?_ (by assumption)))⟩
    simp only [levO, h0, if_true, Int.toNat_natCast]
    rw [levV_none (fun i hi => allN_t fun j hj => by rw [HZ.out]; simp [bukA, allV, wthV, sumV])]
    rfl
  · have hpos : 1 ≤ vs.length := by
      cases vs with
      | nil => exact absurd rfl hz
      | cons => simp
    have hz2 : ((vs.length : Int) == 0) = false := by simp; exact hz
    have HE := hide (buk_end HS.out n1 hz)
    clear hz
    go_enter Tryz.func100, Tryz.ntmps100
    go_wp2_with (go_at_call 36; refine (prof_impl _ _ _ _ _ (hR.ext (by repeat (first | exact Ext.refl _ | assumption | refine Ext.alloc ?_ _ | refine Ext.drew ?_ | refine Ext.trans ?_ (by assumption))))).mono ?_; rintro e w1 ⟨rfl, hw1⟩; have q0 := Ext.keep (w' := w1) (by repeat (first | exact Ext.refl _ | assumption | refine Ext.alloc ?_ _ | refine Ext.drew ?_ | refine Ext.trans ?_ (by assumption))) q0; have q1 := Ext.keep (w' := w1) (by repeat (first | exact Ext.refl _ | assumption | refine Ext.alloc ?_ _ | refine Ext.drew ?_ | refine Ext.trans ?_ (by assumption))) q1)
    have hw : Ext w w1 := (by repeat (first | exact Ext.refl _ | assumption | refine Ext.alloc ?_ _ | refine Ext.drew ?_ | refine Ext.trans ?_ (by assumption)))
    have hR0 := hR.ext hw
    obtain ⟨wb, hwb⟩ : ∃ wb : World, wb = w1 := ⟨_, rfl⟩
    subst hwb
    have b2 : 0 ≤ allV vs ∧ allV vs ≤ 24000 := sumV_bd' HS.out
    go_loopw [3] (fun i wr => ∃ k : Nat, k + 1 ≤ n ∧ i = .int .i64 ((k + 1 : Nat) : Int) ∧ Hid (∀ j, j < k → bukN n vs (j + 1) = true) ∧ Ext wb wr) (fun i _ => n + 1 - (intOf i).toNat)
    case atStart => exact ⟨0, n1, rfl, fun j hj => absurd hj (by omega), Ext.refl _⟩
    case round =>
      obtain ⟨k, hk, rfl, hall, hwr⟩ := hrel
      have r0 := hwr.keep q0
      have r1 := hwr.keep q1
      have hRr := hR0.ext hwr
      obtain ⟨s, hs⟩ : ∃ s : Nat, s = k + 1 := ⟨_, rfl⟩
      rw [← hs]
      have HK := hide hs
      have hs1 : k + 1 ≤ s := by omega
      have hs2 : s ≤ k + 1 := by omega
      clear hs
      obtain ⟨M, hM⟩ : ∃ M : Int, M = maxL (rowL n (wthV vs s)) := ⟨_, rfl⟩
      have hne : rowL n (wthV vs s) ≠ [] := fun e => by have := rowL_len n (wthV vs s); rw [e] at this; simp at this; omega
      obtain ⟨j, hj⟩ := List.mem_iff_getElem?.1 (maxL_mem hne)
      obtain ⟨hjn, hjv⟩ := rowL_val hj
      have b1 := wthV_bd HS.out s j
      rw [← hjv, ← hM] at b1
      have hmb := max_buk (vs := vs) n1 s
      rw [← hM] at hmb
      have HMB := hide hmb
      have HM := hide hM
      clear hM hne hj hjv hjn hmb
      have y1 : wrap64 (2 * M) = 2 * M := IntWalk.wrap64_in _ (by omega)
      have y2 : IntKind.i64.wrap (2 * M) = 2 * M := IntWalk.i64_in _ (by omega)
      have HC : Hid (∀ w', Ext wb w' → Calls Tryz.prog 90 #[.agg #[.int .i64 n, .slice a vs.length c]] w' fun e w'' => e = .returned (.int .i64 (allV vs)) ∧ Ext w' w'') := fun w' hw' =>
        (count_impl w' n a c vs (hR0.ext hw')).mono fun _ _ ⟨h1, h2⟩ => ⟨by rw [h1, if_pos h0], h2⟩
      go_wp2
      refine wp_region_O [0, 1, 5, 2, 3, 4, 6, 7] (by kernel_rfl) rfl (by kernel_rfl) ?_
      repeat' (refine wpO_stepQ rfl (fun K hK => ?_)
               go_simp
               try (rw [if_neg (by intro h; simp [undef] at h)])
               try split
               all_goals
                 first
                 | (refine hK _ ?_
                    clear hK K)
                 | (apply Exists.intro
                    refine ⟨fun wq hwq => ?_, hK _ ?_⟩
                    · have hcq := hwq.cellS
                      go_simp
                      first
                      | exact ⟨Ext.refl _, rfl⟩
                      | exact ⟨Ext.refl _, HC.out _ (by repeat (first | exact Ext.refl _ | assumption | refine Ext.alloc ?_ _ | refine Ext.drew ?_ | refine Ext.trans ?_ (by assumption)))⟩
                    clear hK K))
      refine wpO_stepS rfl (by kernel_rfl) (fun K hK wq hwq => ?_)
      go_simp
      refine (wth_impl _ n a c vs s (hRr.ext (by repeat (first | exact Ext.refl _ | assumption | refine Ext.alloc ?_ _ | refine Ext.drew ?_ | refine Ext.trans ?_ (by assumption)))) HS.out n2).mono ?_
      rintro e w3 ⟨v, rfl, hv, hw3⟩
      refine ⟨hw3, hK _ _ ?_⟩
      clear hK K
      obtain ⟨av, cv, rfl, _, hRv, _⟩ := hv.fr
      have HX : Hid (∀ w', Ext w3 w' → Calls Tryz.prog 86 #[.slice av n cv] w' fun e w'' => e = .returned (.int .i64 M) ∧ Ext w' w'') := fun w' hw' => by
        have h := max_impl w' av cv _ (hRv.ext hw') (by rw [rowL_len]; omega) (by rw [rowL_len]; omega)
        rw [rowL_len, ← HM.out] at h
        exact h
      rw [rowL_len]
      repeat' (refine wpO_stepQ rfl (fun K hK => ?_)
               go_simp
               try (rw [if_neg (by intro h; simp [undef] at h)])
               try split
               all_goals
                 first
                 | (refine hK _ ?_
                    clear hK K)
                 | (apply Exists.intro
                    refine ⟨fun wq hwq => ?_, hK _ ?_⟩
                    · have hcq := hwq.cellS
                      go_simp
                      first
                      | exact ⟨Ext.refl _, rfl⟩
                      | exact ⟨Ext.refl _, HX.out _ (by repeat (first | exact Ext.refl _ | assumption | refine Ext.alloc ?_ _ | refine Ext.drew ?_ | refine Ext.trans ?_ (by assumption)))⟩
                      | exact ⟨Ext.refl _, HC.out _ (by repeat (first | exact Ext.refl _ | assumption | refine Ext.alloc ?_ _ | refine Ext.drew ?_ | refine Ext.trans ?_ (by assumption)))⟩
                    clear hK K))
      refine wpO_nil (fun wz hwz => ?_)
      by_cases ht : 2 * M ≤ allV vs
      · go_wp2
        have hkn : k + 1 ≠ n := fun e => by
          have h1 := HMB.out.1 ht
          rw [HK.out, e, HE.out] at h1
          cases h1
        exact ⟨⟨s, by omega, by go_num, fun x hx => by
          rcases Nat.lt_succ_iff_lt_or_eq.1 (show x < k + 1 by omega) with h | h
          · exact hall.out x h
          · rw [h, ← HK.out]; exact HMB.out.1 ht, (by repeat (first | exact Ext.refl _ | assumption | refine Ext.alloc ?_ _ | refine Ext.drew ?_ | refine Ext.trans ?_ (by assumption)))⟩, by simp [intOf]; omega⟩
      · go_wp2
        go_ret
        refine ⟨ret_int ?_, (by repeat (first | exact Ext.refl _ | assumption | refine Ext.alloc ?_ _ | refine Ext.drew ?_ | refine Ext.trans ?_ (by assumption)))⟩
        have h1 : bukN n vs (k + 1) = false := by
          cases hb : bukN n vs (k + 1)
          · rfl
          · exact absurd (HMB.out.2 (by rw [HK.out]; exact hb)) (by omega)
        simp only [levO, h0, if_true, Int.toNat_natCast]
        rw [levV_at (by omega) hall.out h1, HK.out]

set_option maxRecDepth 100000 in
theorem rowL_len_le {n m : Nat} {f : Nat → Int} (h : n ≤ m) : (rowL n f).length ≤ m := by rw [rowL_len]; exact h
set_option maxRecDepth 100000 in
theorem best_first {xs : List Int} (h : 1 ≤ xs.length) : ∃ (i : Nat) (r : List Int), bestL xs = (i : Int) :: r ∧ xs[i]? = some (maxL xs) ∧ i < xs.length ∧ ∀ j, j < i → xs[j]? ≠ some (maxL xs) := by
  have h1 := bestT_head (xs := xs) h (Nat.le_refl _)
  rw [bestT_all, List.take_length] at h1
  exact h1

set_option maxRecDepth 100000 in
set_option maxHeartbeats 2000000 in
theorem bukO_impl (w : World) (sz : Int) (a : Option Addr) (c : Nat) (vs : List Vt) (hR : RdV w a vs) :
    Calls Tryz.prog 49 #[.agg #[.int .i64 sz, .slice a vs.length c]] w fun e w' => e = .returned (.int .i64 (bukO sz vs)) ∧ Ext w w' := by
  have q0 := new0 w (.int .i64 sz) [.slice a vs.length c] 29
  have q1 := new1 w (.int .i64 sz) (.slice a vs.length c) [] 29
  cases h0 : profOk sz vs
  · have HL : Hid (levO sz vs = -1) := hide (by simp [levO, h0])
    go_enter Tryz.func49, Tryz.ntmps49
    go_wp2_with fail
    refine (levO_impl _ sz a c vs (hR.ext (by repeat (first | exact Ext.refl _ | assumption | refine Ext.alloc ?_ _ | refine Ext.drew ?_ | refine Ext.trans ?_ (by assumption))))).mono ?_
    rintro e w1 ⟨rfl, hw1⟩
    rw [HL.out]
    go_wp2
    go_ret
    exact ⟨ret_int (by simp [bukO, h0]), (by repeat (first | exact Ext.refl _ | assumption | refine Ext.alloc ?_ _ | refine Ext.drew ?_ | refine Ext.trans ?_ (by assumption)))⟩
  obtain ⟨n, rfl, n1, n2⟩ := prof_nat h0
  have HS := hide (prof_small h0)
  have hlv := levV_le n vs
  have HL : Hid (levO n vs = (levV n vs : Int)) := hide (by simp [levO, h0])
  obtain ⟨i, r, hb, hmx, hil, hmin⟩ := best_first (xs := rowL n (wthV vs (levV n vs))) (by rw [rowL_len]; exact n1)
  have HO : Hid (bukO n vs = i) := hide (by simp only [bukO, h0, if_true, Int.toNat_natCast, hb, List.headD_cons])
  by_cases hz : levV n vs = 0
  · have hi0 : i = 0 := by
      rcases Nat.eq_zero_or_pos i with h | h
      · exact h
      · have hall : ∀ j, j < n → wthV vs 0 j = 0 := fun j hj => by
          rw [← wth_sum HS.out hj 0]; rfl
        exfalso
        refine hmin 0 h ?_
        rw [← hmx, rowL_at (by omega), rowL_at (by rw [rowL_len] at hil; exact hil), hz, hall 0 (by omega), hall i (by rw [rowL_len] at hil; exact hil)]
    have HI := hide hi0
    have HZ := hide hz
    clear hb hmx hil hmin hi0 hz h0
    go_enter Tryz.func49, Tryz.ntmps49
    go_wp2_with fail
    refine (levO_impl _ n a c vs (hR.ext (by repeat (first | exact Ext.refl _ | assumption | refine Ext.alloc ?_ _ | refine Ext.drew ?_ | refine Ext.trans ?_ (by assumption))))).mono ?_
    rintro e w1 ⟨rfl, hw1⟩
    rw [HL.out, HZ.out]
    go_wp2
    go_ret
    exact ⟨ret_int (by rw [HO.out, HI.out]; rfl), (by repeat (first | exact Ext.refl _ | assumption | refine Ext.alloc ?_ _ | refine Ext.drew ?_ | refine Ext.trans ?_ (by assumption)))⟩
  · have hp : ¬ ((levV n vs : Int) < 1) := by omega
    have HB := hide hb
    clear hb hmx hil hmin h0
    go_enter Tryz.func49, Tryz.ntmps49
    go_wp2_with fail
    refine (levO_impl _ n a c vs (hR.ext (by repeat (first | exact Ext.refl _ | assumption | refine Ext.alloc ?_ _ | refine Ext.drew ?_ | refine Ext.trans ?_ (by assumption))))).mono ?_
    rintro e w1 ⟨rfl, hw1⟩
    rw [HL.out]
    have q0 := hw1.keep q0
    have q1 := hw1.keep q1
    go_wp2_with fail
    refine (wth_impl _ n a c vs (levV n vs) (hR.ext (by repeat (first | exact Ext.refl _ | assumption | refine Ext.alloc ?_ _ | refine Ext.drew ?_ | refine Ext.trans ?_ (by assumption)))) HS.out n2).mono ?_
    rintro e w3 ⟨v, rfl, hv, hw3⟩
    obtain ⟨av, cv, rfl, _, hRv, _⟩ := hv.fr
    go_wp2_with fail
    refine (gr_impl _ av cv _ (hRv.ext (by repeat (first | exact Ext.refl _ | assumption | refine Ext.alloc ?_ _ | refine Ext.drew ?_ | refine Ext.trans ?_ (by assumption)))) (by rw [rowL_len]; omega)).mono ?_
    rintro e w4 ⟨v2, rfl, hv2, hw4⟩
    obtain ⟨a2, c2, rfl, _, _, hR2, _⟩ := hv2.val
    obtain ⟨b3, off3, rfl, d0⟩ := hR2.at_ (k := 0) (x := (i : Int)) (by rw [HB.out]; rfl)
    rw [Nat.add_zero] at d0
    have hbl : 1 ≤ (bestL (rowL n (wthV vs (levV n vs)))).length := by rw [HB.out]; simp
    clear hv hv2 hRv hR2
    go_wp2
    go_ret
    exact ⟨ret_int HO.out.symm, (by repeat (first | exact Ext.refl _ | assumption | refine Ext.alloc ?_ _ | refine Ext.drew ?_ | refine Ext.trans ?_ (by assumption)))⟩

set_option maxRecDepth 100000 in
/-- A cell of the matrix is written whose row is known. -/
theorem Mat.set {w : World} {B g n b m c : Nat} {us : Nat → Value} {rows : Nat → List Int} (h : Mat w B g n us rows) {i j : Nat} {x : Int} (hi : i < n) (hx : (rows i)[j]? = some x) (hu : us i = .slice (some ⟨b, 0, none⟩) m c) (y : Int) :
    Mat (w.setCell ⟨b, j, none⟩ (.int .i64 y)) B g n us (fun o => if o = i then (rows i).set j y else rows o) := by
  obtain ⟨b', c', hv, _, _, _, _, hM⟩ := h.cell hi hx
  rw [hu] at hv
  injection hv with hv
  injection hv with hv
  injection hv with hv
  subst hv
  exact hM y

def fw1 (M : Nat → Nat → Int) (k a b : Nat) : Nat → Nat → Int := fun x y => if x = a ∧ y = b ∧ a ≠ b then max (M a b) (min (M a k) (M k b)) else M x y
def fwB (M : Nat → Nat → Int) (k a : Nat) : Nat → Nat → Nat → Int
  | 0 => M
  | m + 1 => fw1 (fwB M k a m) k a m
def fwA (n : Nat) (M : Nat → Nat → Int) (k : Nat) : Nat → Nat → Nat → Int
  | 0 => M
  | i + 1 => fwB (fwA n M k i) k i n
def fwK (n : Nat) (M : Nat → Nat → Int) : Nat → Nat → Nat → Int
  | 0 => M
  | k + 1 => fwA n (fwK n M k) k n
def fw0 (vs : List Vt) (a b : Nat) : Int := if bt vs a b then pairV vs a b else 0
def pthV (n : Nat) (vs : List Vt) : Nat → Nat → Int := fwK n (fw0 vs) n
def pthO (sz : Int) (vs : List Vt) : List (List Int) := if profOk sz vs then tabL sz.toNat (pthV sz.toNat vs) else []
set_option maxRecDepth 100000 in
theorem pthO_bd (sz : Int) (vs : List Vt) : (pthO sz vs).length ≤ 1000 ∧ ∀ x ∈ pthO sz vs, x.length ≤ 100 := by
  unfold pthO
  cases h0 : profOk sz vs
  · simp
  · obtain ⟨n, rfl, n1, n2⟩ := prof_nat h0
    simpa using tabL_bd n2
set_option maxRecDepth 100000 in
theorem fw1_same (M : Nat → Nat → Int) (k a : Nat) : fw1 M k a a = M := by
  funext x y; unfold fw1; rw [if_neg (fun h => h.2.2 rfl)]
set_option maxRecDepth 100000 in
theorem fw1_row {n : Nat} (M : Nat → Nat → Int) {k a b : Nat} (hne : a ≠ b) (o : Nat) :
    (if o = a then (rowL n (M a)).set b (max (M a b) (min (M a k) (M k b))) else rowL n (M o)) = rowL n (fw1 M k a b o) := by
  by_cases e : o = a
  · subst e
    rw [if_pos rfl]
    refine rowL_set (fun j _ => ?_)
    unfold fw1
    by_cases e2 : j = b
    · subst e2; rw [if_pos ⟨rfl, rfl, hne⟩, if_pos rfl]
    · rw [if_neg (fun h => e2 h.2.1), if_neg e2]
  · rw [if_neg e]
    refine rowL_congr (fun j _ => ?_)
    unfold fw1
    rw [if_neg (fun h => e h.1)]

set_option maxRecDepth 100000 in
theorem Mat.form {w : World} {B g n : Nat} {us : Nat → Value} {rows : Nat → List Int} (h : Mat w B g n us rows) {i : Nat} (hi : i < n) (hne : 1 ≤ (rows i).length) : ∃ b c, us i = .slice (some ⟨b, 0, none⟩) (rows i).length c := by
  obtain ⟨x, hx⟩ := at_of_lt (xs := rows i) (k := 0) hne
  obtain ⟨b, c, hv, _⟩ := h.cell hi hx
  exact ⟨b, c, hv⟩
set_option maxRecDepth 100000 in
theorem Mat.read {w : World} {B g n b m c : Nat} {us : Nat → Value} {rows : Nat → List Int} (h : Mat w B g n us rows) {i j : Nat} {x : Int} (hi : i < n) (hx : (rows i)[j]? = some x) (hu : us i = .slice (some ⟨b, 0, none⟩) m c) :
    w.cell? ⟨b, j, none⟩ = some (.int .i64 x) ∧ w.frozen? ⟨b, j, none⟩ = false ∧ B ≤ b := by
  obtain ⟨b', c', hv, _, hB, h1, h2, _⟩ := h.cell hi hx
  rw [hu] at hv
  injection hv with hv
  injection hv with hv
  injection hv with hv
  subst hv
  exact ⟨h1, h2, hB⟩
set_option maxRecDepth 100000 in
theorem Mat.three {w : World} {B g n : Nat} {us : Nat → Value} {M : Nat → Nat → Int} (h : Mat w B g n us (fun o => rowL n (M o))) {a b k : Nat} (ha : a < n) (hb : b < n) (hk : k < n) :
    ∃ ba ca bk ck, w.cell? ⟨g, a, none⟩ = some (.slice (some ⟨ba, 0, none⟩) n ca) ∧ w.cell? ⟨g, k, none⟩ = some (.slice (some ⟨bk, 0, none⟩) n ck) ∧ w.cell? ⟨ba, b, none⟩ = some (.int .i64 (M a b)) ∧ w.cell? ⟨ba, k, none⟩ = some (.int .i64 (M a k)) ∧
      w.cell? ⟨bk, b, none⟩ = some (.int .i64 (M k b)) ∧ w.frozen? ⟨ba, b, none⟩ = false ∧ B ≤ ba ∧
      ∀ (w' : World) (y : Int), Ext w w' → a ≠ b → y = max (M a b) (min (M a k) (M k b)) → Mat (w'.setCell ⟨ba, b, none⟩ (.int .i64 y)) B g n us (fun o => rowL n (fw1 M k a b o)) := by
  obtain ⟨ba, ca, hua⟩ := h.form ha (by rw [rowL_len]; omega)
  obtain ⟨bk, ck, huk⟩ := h.form hk (by rw [rowL_len]; omega)
  rw [rowL_len] at hua huk
  obtain ⟨h1, h2, h3⟩ := h.read ha (rowL_at (f := M a) hb) hua
  refine ⟨ba, ca, bk, ck, by rw [h.outer.cell a ha, hua], by rw [h.outer.cell k hk, huk], h1, (h.read ha (rowL_at (f := M a) hk) hua).1, (h.read hk (rowL_at (f := M k) hb) huk).1, h2, h3, fun w' y hw hne hy => ?_⟩
  subst hy
  exact ((h.ext hw).set ha (rowL_at (f := M a) hb) hua _).congr (fun o _ => fw1_row M hne o)

def fwP (vs : List Vt) (i m j : Nat) : Int := if j < m then fw0 vs i j else 0
set_option maxRecDepth 100000 in
theorem fwP_all {n : Nat} (vs : List Vt) (i : Nat) : rowL n (fwP vs i n) = rowL n (fw0 vs i) := rowL_congr (fun j hj => by unfold fwP; rw [if_pos hj])
set_option maxRecDepth 100000 in
theorem fwP_zero (vs : List Vt) (i : Nat) : fwP vs i 0 = fun _ => 0 := by funext j; unfold fwP; rw [if_neg (by omega)]
set_option maxRecDepth 100000 in
theorem fwP_next (vs : List Vt) (i m j : Nat) : fwP vs i (m + 1) j = if j = m then fw0 vs i m else fwP vs i m j := by
  unfold fwP
  by_cases e : j = m
  · subst e; rw [if_pos (by omega), if_pos rfl]
  · rw [if_neg e]
    by_cases h : j < m
    · rw [if_pos (by omega), if_pos h]
    · rw [if_neg (by omega), if_neg h]

def bldR (vs : List Vt) (n i m o : Nat) : List Int := if o < i then rowL n (fw0 vs o) else if o = i then rowL n (fwP vs i m) else []
def bldS (vs : List Vt) (n i o : Nat) : List Int := if o < i then rowL n (fw0 vs o) else []

set_option maxRecDepth 100000 in
set_option maxHeartbeats 8000000 in
theorem pth_impl (w : World) (sz : Int) (a : Option Addr) (c : Nat) (vs : List Vt) (hR : RdV w a vs) :
    Calls Tryz.prog 102 #[.agg #[.int .i64 sz, .slice a vs.length c]] w fun e w' => ∃ v, e = .returned v ∧ WrSS w' w.heap.size v (pthO sz vs) ∧ Ext w w' := by
  have q0 := new0 w (.int .i64 sz) [.slice a vs.length c] 29
  have q1 := new1 w (.int .i64 sz) (.slice a vs.length c) [] 29
  cases h0 : profOk sz vs
  · go_enter Tryz.func102, Tryz.ntmps102
    go_wp2_with (go_at_call 36; refine (prof_impl _ _ _ _ _ (hR.ext (by repeat (first | exact Ext.refl _ | assumption | refine Ext.alloc ?_ _ | refine Ext.drew ?_ | refine Ext.trans ?_ (by assumption))))).mono ?_; rintro e w1 ⟨rfl, hw1⟩; have q0 := Ext.keep (w' := w1) (by repeat (first | exact Ext.refl _ | assumption | refine Ext.alloc ?_ _ | refine Ext.drew ?_ | refine Ext.trans ?_ (by assumption))) q0; have q1 := Ext.keep (w' := w1) (by repeat (first | exact Ext.refl _ | assumption | refine Ext.alloc ?_ _ | refine Ext.drew ?_ | refine Ext.trans ?_ (by assumption))) q1)
    go_ret
    exact ⟨_, rfl, by simp [pthO, h0]; exact WrSS.nil _ _ _ _, (by repeat (first | exact Ext.refl _ | assumption | refine Ext.alloc ?_ _ | refine Ext.drew ?_ | refine Ext.trans ?_ (by assumption)))⟩
  obtain ⟨n, rfl, n1, n2⟩ := prof_nat h0
  have HS := hide (prof_small h0)
  obtain ⟨i0, hi, hz0, hz1, hz2⟩ := info_parts info_int
  have hmk := fun W => run_make_rowN (P := Tryz.prog) 36 3 i0 _ Tryz.underlying36 hi hz0 .i64 .i64 n n (Nat.le_refl _) (by rw [hz2]; omega) (by omega) W
  rw [hz1, Nat.mul_one] at hmk
  obtain ⟨j0, hj, hy0, hy1, hy2⟩ := info_parts info_row
  have hmk2 := fun W => run_make_rowN (P := Tryz.prog) 93 36 j0 _ Tryz.underlying93 hj hy0 .i64 .i64 n n (Nat.le_refl _) (by rw [hy2]; omega) (by omega) W
  rw [hy1, Nat.mul_one] at hmk2
  go_enter Tryz.func102, Tryz.ntmps102
  go_wp2_with (go_at_call 36; refine (prof_impl _ _ _ _ _ (hR.ext (by repeat (first | exact Ext.refl _ | assumption | refine Ext.alloc ?_ _ | refine Ext.drew ?_ | refine Ext.trans ?_ (by assumption))))).mono ?_; rintro e w1 ⟨rfl, hw1⟩; have q0 := Ext.keep (w' := w1) (by repeat (first | exact Ext.refl _ | assumption | refine Ext.alloc ?_ _ | refine Ext.drew ?_ | refine Ext.trans ?_ (by assumption))) q0; have q1 := Ext.keep (w' := w1) (by repeat (first | exact Ext.refl _ | assumption | refine Ext.alloc ?_ _ | refine Ext.drew ?_ | refine Ext.trans ?_ (by assumption))) q1)
  clear hmk2
  have hw : Ext w w1 := (by repeat (first | exact Ext.refl _ | assumption | refine Ext.alloc ?_ _ | refine Ext.drew ?_ | refine Ext.trans ?_ (by assumption)))
  have hR0 := hR.ext hw
  have hM := Mat.made w1 n
  have h20 := Ext.new w1 (.cells (madeCells #[.slice none 0 0] n) 36)
  generalize w1.alloc (.cells (madeCells #[.slice none 0 0] n) 36) = W0 at hM h20 ⊢
  obtain ⟨wb, hwb⟩ : ∃ wb : World, wb = w1 := ⟨_, rfl⟩
  subst hwb
  obtain ⟨g, hg⟩ : ∃ g : Nat, g = wb.heap.size := ⟨_, rfl⟩
  have hgg : wb.heap.size ≤ g := by omega
  rw [← hg] at hM ⊢
  have hM : Mat W0 wb.heap.size g n (fun _ => .slice none 0 0) (fun _ => []) := by rw [hg] at hM ⊢; exact hM
  clear hg
  go_loopw [4, 5, 17, 27, 28] (fun _ _ i _ _ wr => ∃ (k : Nat) (us : Nat → Value), k ≤ n ∧ i = .int .i64 k ∧ Hid (Mat wr wb.heap.size g n us (bldS vs n k)) ∧ Ext wb wr) (fun _ _ i _ _ _ => n - (intOf i).toNat)
  case atStart => exact ⟨0, _, Nat.zero_le _, rfl, hM.congr (fun o _ => by unfold bldS; rw [if_neg (by omega)]), h20⟩
  case round =>
    clear hM h20
    obtain ⟨i, us, hi, rfl, HM, hwr⟩ := hrel
    have r0 := hwr.keep q0
    by_cases hit : i < n
    · have hO := OwnI.made wr n (by omega)
      have hgl := HM.out.outer.lt
      have hM2 := HM.out.put (w' := wr.alloc (.cells (madeCells #[.int .i64 0] n) 3)) hit (World.grownBy_alloc wr _ none) (fun k h => by cases h) (hO.base (Nat.le_trans hgg (Nat.le_of_lt hgl))) (fun k hk => by
        simp only [Value.ownBlock, Option.some.injEq] at hk
        refine ⟨by omega, fun o ho _ e => ?_⟩
        have := (World.ownsRow.lt (HM.out.row o ho) k e).2
        omega)
      have hM3 := hM2.congr (rows' := bldR vs n i 0) (fun o ho => by
        unfold bldR bldS
        by_cases e : o = i
        · subst e; rw [if_pos rfl, if_neg (by omega), if_pos rfl, fwP_zero]
        · rw [if_neg e, if_neg e])
      have hE3 : Ext wb ((wr.alloc (.cells (madeCells #[.int .i64 0] n) 3)).setCell ⟨g, i, none⟩ (.slice (some ⟨wr.heap.size, 0, none⟩) n n)) := Ext.setCell (hwr.trans (Ext.new wr _)) hgg _
      rw [World.setCell_alloc_past _ _ _ _ hgl] at hM3 hE3
      have HM3 := hide hM3
      have r1 := hE3.keep q0
      have d0 := HM.out.outer.cell i hit
      have z0 := HM.out.outer.fr i
      clear hM2 hM3 hO HM
      go_wp2
      clear r1
      generalize (wr.setCell ⟨g, i, none⟩ (.slice (some ⟨wr.heap.size, 0, none⟩) n n)).alloc (.cells (madeCells #[.int .i64 0] n) 3) = W1 at HM3 hE3 ⊢
      generalize (fun o => if o = i then Value.slice (some ⟨wr.heap.size, 0, none⟩) n n else us o) = us1 at HM3
      clear d0 z0 hwr r0
      go_loopw [5, 28] (fun _ m wr => ∃ k : Nat, k ≤ n ∧ m = .int .i64 k ∧ Hid (Mat wr wb.heap.size g n us1 (bldR vs n i k)) ∧ Ext wb wr) (fun _ m _ => n - (intOf m).toNat)
      case atStart => exact ⟨0, Nat.zero_le _, rfl, HM3, hE3⟩
      case round =>
        clear HM3 hE3
        obtain ⟨m, hm, rfl, HM, hwr⟩ := hrel
        have r0 := hwr.keep q0
        have r1 := hwr.keep q1
        have hRr := hR0.ext hwr
        by_cases hlt : m < n
        · cases hb : beatsV vs i m
          · go_wp2_with (go_at_call 93; refine (beats_impl _ _ _ _ _ _ _ (hRr.ext (by repeat (first | exact Ext.refl _ | assumption | refine Ext.alloc ?_ _ | refine Ext.drew ?_ | refine Ext.trans ?_ (by assumption)))) HS.out).mono ?_; rintro e w1 ⟨rfl, hw1⟩)
            refine ⟨⟨m + 1, by omega, by go_num, ?_, (by repeat (first | exact Ext.refl _ | assumption | refine Ext.alloc ?_ _ | refine Ext.drew ?_ | refine Ext.trans ?_ (by assumption)))⟩, by simp [intOf]; omega⟩
            refine (HM.out.ext hw1).congr (fun o _ => ?_)
            unfold bldR
            by_cases e : o < i
            · rw [if_pos e, if_pos e]
            · rw [if_neg e, if_neg e]
              by_cases e2 : o = i
              · rw [if_pos e2, if_pos e2]
                refine rowL_congr (fun j _ => ?_)
                rw [fwP_next]
                by_cases e3 : j = m
                · rw [if_pos e3, e3]
                  have e1 : fw0 vs i m = 0 := by unfold fw0 bt; rw [hb]; rfl
                  have e4 : fwP vs i m m = 0 := by unfold fwP; rw [if_neg (Nat.lt_irrefl _)]
                  rw [e1, e4]
                · rw [if_neg e3]
              · rw [if_neg e2, if_neg e2]
          · have hri : bldR vs n i m i = rowL n (fwP vs i m) := by unfold bldR; rw [if_neg (by omega), if_pos rfl]
            obtain ⟨ba, ca, hua⟩ := HM.out.form hit (by rw [hri, rowL_len]; omega)
            rw [hri, rowL_len] at hua
            have hx := rowL_at (f := fwP vs i m) hlt
            rw [← hri] at hx
            obtain ⟨d1, z1, hbl⟩ := HM.out.read hit hx hua
            have d0 := HM.out.outer.cell i hit
            rw [hua] at d0
            have HX := hide hx
            have HU := hide hua
            have HRI := hide hri
            clear hx hua hri
            go_wp2_with (go_at_call 93; refine (beats_impl _ _ _ _ _ _ _ (hRr.ext (by repeat (first | exact Ext.refl _ | assumption | refine Ext.alloc ?_ _ | refine Ext.drew ?_ | refine Ext.trans ?_ (by assumption)))) HS.out).mono ?_; rintro e w1 ⟨rfl, hw1⟩; have r0 := Ext.keep (w' := w1) (by repeat (first | exact Ext.refl _ | assumption | refine Ext.alloc ?_ _ | refine Ext.drew ?_ | refine Ext.trans ?_ (by assumption))) r0; have r1 := Ext.keep (w' := w1) (by repeat (first | exact Ext.refl _ | assumption | refine Ext.alloc ?_ _ | refine Ext.drew ?_ | refine Ext.trans ?_ (by assumption))) r1; have d0 := Ext.keep (w' := w1) (by repeat (first | exact Ext.refl _ | assumption | refine Ext.alloc ?_ _ | refine Ext.drew ?_ | refine Ext.trans ?_ (by assumption))) d0; have d1 := Ext.keep (w' := w1) (by repeat (first | exact Ext.refl _ | assumption | refine Ext.alloc ?_ _ | refine Ext.drew ?_ | refine Ext.trans ?_ (by assumption))) d1)
            have z1 : w1.frozen? ⟨ba, m, none⟩ = false := (hw1.frozenS _ (by rw [(HM.out.read hit HX.out HU.out).1]; rfl)).trans z1
            have HMw := hide (HM.out.ext hw1)
            have hwr := hwr.trans hw1
            refine wp_region_X (by kernel_rfl) (by kernel_rfl) ?_
            repeat' (refine wpX_stepQ (fun K hK => ?_)
                     go_simp
                     try (rw [if_neg (by intro h; simp [undef] at h)])
                     try split
                     all_goals
                       first
                       | (refine hK _ ?_
                          clear hK K)
                       | (apply Exists.intro
                          refine ⟨fun wq hwq => ?_, hK _ ?_⟩
                          · have hcq := hwq.cellS
                            go_simp
                            first
                            | exact ⟨Ext.refl _, rfl⟩
                            | exact ⟨Ext.refl _, pairI_impl _ _ _ _ _ _ _ (hRr.ext (by repeat (first | exact Ext.refl _ | assumption | refine Ext.alloc ?_ _ | refine Ext.drew ?_ | refine Ext.trans ?_ (by assumption)))) HS.out⟩
                          clear hK K))
            refine wpX_stepL rfl (by kernel_rfl) (by kernel_rfl) (by kernel_rfl) (fun K hK wz hwz => ?_)
            have hcz := hwz.cellS
            have hfz := hwz.frozenS
            go_simp
            refine hK _ _ ?_
            clear hK K
            go_wp2
            refine ⟨⟨m + 1, by omega, by go_num, ?_, Ext.setCell (hwr.trans hwz) hbl _⟩, by simp [intOf]; omega⟩
            refine ((HMw.out.ext hwz).set hit HX.out HU.out (pairV vs i m)).congr (fun o _ => ?_)
            by_cases e2 : o = i
            · subst e2
              rw [if_pos rfl, HRI.out]
              unfold bldR
              rw [if_neg (by omega), if_pos rfl]
              refine rowL_set (fun j _ => ?_)
              rw [fwP_next]
              by_cases e3 : j = m
              · rw [if_pos e3, if_pos e3]; unfold fw0 bt; rw [hb]; rfl
              · rw [if_neg e3, if_neg e3]
            · rw [if_neg e2]
              unfold bldR
              by_cases e : o < i
              · rw [if_pos e, if_pos e]
              · rw [if_neg e, if_neg e, if_neg e2, if_neg e2]
        · have hmn : m = n := by omega
          rw [hmn] at HM
          go_wp2
          refine ⟨⟨i + 1, us1, by omega, by go_num, HM.out.congr (fun o _ => ?_), hwr⟩, by simp [intOf]; omega⟩
          unfold bldR bldS
          by_cases e : o < i
          · rw [if_pos e, if_pos (by omega)]
          · by_cases e2 : o = i
            · subst e2; rw [if_neg e, if_pos rfl, if_pos (by omega), fwP_all]
            · rw [if_neg e, if_neg e2, if_neg (by omega)]
    · have hin : i = n := by omega
      have hM := HM.out.congr (rows' := fun o => rowL n (fwK n (fw0 vs) 0 o)) (fun o ho => by unfold bldS; rw [if_pos (by omega)]; rfl)
      clear HM hin r0
      have HM := hide hM
      clear hM
      have r0 := hwr.keep q0
      go_wp2_with fail
      go_loopw [6, 7, 8, 49, 53, 54, 58, 59] (fun _ _ _ i _ _ _ _ wr => ∃ k : Nat, k ≤ n ∧ i = .int .i64 k ∧ Hid (Mat wr wb.heap.size g n us (fun o => rowL n (fwK n (fw0 vs) k o))) ∧ Ext wb wr) (fun _ _ _ i _ _ _ _ _ => n - (intOf i).toNat)
      case atStart => exact ⟨0, Nat.zero_le _, rfl, HM, hwr⟩
      case round =>
        clear HM hwr r0
        obtain ⟨k, hk, rfl, HM, hwr⟩ := hrel
        have r0 := hwr.keep q0
        by_cases hkt : k < n
        · go_wp2
          go_loopw [7, 8, 54, 58, 59] (fun _ _ i _ _ wr => ∃ x : Nat, x ≤ n ∧ i = .int .i64 x ∧ Hid (Mat wr wb.heap.size g n us (fun o => rowL n (fwA n (fwK n (fw0 vs) k) k x o))) ∧ Ext wb wr) (fun _ _ i _ _ _ => n - (intOf i).toNat)
          case atStart => exact ⟨0, Nat.zero_le _, rfl, HM, hwr⟩
          case round =>
            clear HM hwr r0
            obtain ⟨x, hx, rfl, HM, hwr⟩ := hrel
            have r0 := hwr.keep q0
            by_cases hxt : x < n
            · go_wp2
              go_loopw [8, 59] (fun _ i wr => ∃ y : Nat, y ≤ n ∧ i = .int .i64 y ∧ Hid (Mat wr wb.heap.size g n us (fun o => rowL n (fwB (fwA n (fwK n (fw0 vs) k) k x) k x y o))) ∧ Ext wb wr) (fun _ i _ => n - (intOf i).toNat)
              case atStart => exact ⟨0, Nat.zero_le _, rfl, HM, hwr⟩
              case round =>
                clear HM hwr r0
                obtain ⟨y, hy, rfl, HM, hwr⟩ := hrel
                by_cases hyt : y < n
                · obtain ⟨M, hM⟩ : ∃ M, M = fwB (fwA n (fwK n (fw0 vs) k) k x) k x y := ⟨_, rfl⟩
                  have HE := hide (show fwB (fwA n (fwK n (fw0 vs) k) k x) k x (y + 1) = fw1 M k x y by rw [hM]; rfl)
                  rw [← hM] at HM
                  clear hM
                  by_cases e : x = y
                  · have e' : (x : Int) = (y : Int) := by omega
                    go_wp2
                    refine ⟨⟨y + 1, by omega, by go_num, ?_, hwr⟩, by simp [intOf]; omega⟩
                    rw [HE.out, e, fw1_same]; exact HM
                  · have e' : ¬ (x : Int) = (y : Int) := by omega
                    obtain ⟨ba, ca, bk, ck, d0, d1, d2, d3, d4, z0, hbl, hnx⟩ := HM.out.three hxt hyt hkt
                    have HN := hide hnx
                    clear hnx
                    go_wp2
                    refine wp_region_X (by kernel_rfl) (by kernel_rfl) ?_
                    repeat' (refine wpX_stepQ (fun K hK => ?_)
                             go_simp
                             try (rw [if_neg (by intro h; simp [undef] at h)])
                             try split
                             all_goals
                               first
                               | (refine hK _ ?_
                                  clear hK K)
                               | (apply Exists.intro
                                  refine ⟨fun wq hwq => ?_, hK _ ?_⟩
                                  · have hcq := hwq.cellS
                                    go_simp
                                    first
                                    | exact ⟨Ext.refl _, rfl⟩
                                  clear hK K))
                    all_goals
                      refine wpX_stepL rfl (by kernel_rfl) (by kernel_rfl) (by kernel_rfl) (fun K hK wz hwz => ?_)
                      have hcz := hwz.cellS
                      have hfz := hwz.frozenS
                      go_simp
                      refine hK _ _ ?_
                      clear hK K
                      go_wp2
                      refine ⟨⟨y + 1, by omega, by go_num, by rw [HE.out]; exact HN.out wz _ (show Ext wr wz from (by repeat (first | exact Ext.refl _ | assumption | refine Ext.alloc ?_ _ | refine Ext.drew ?_ | refine Ext.trans ?_ (by assumption)))) e (by omega), Ext.setCell (hwr.trans (by repeat (first | exact Ext.refl _ | assumption | refine Ext.alloc ?_ _ | refine Ext.drew ?_ | refine Ext.trans ?_ (by assumption)))) hbl _⟩, by simp [intOf]; omega⟩
                · have hyn : y = n := by omega
                  rw [hyn] at HM
                  go_wp2
                  exact ⟨⟨x + 1, by omega, by go_num, HM, hwr⟩, by simp [intOf]; omega⟩
            · have hxn : x = n := by omega
              rw [hxn] at HM
              go_wp2
              exact ⟨⟨k + 1, by omega, by go_num, HM, hwr⟩, by simp [intOf]; omega⟩
        · have hkn : k = n := by omega
          rw [hkn] at HM
          go_wp2
          go_ret
          refine ⟨_, rfl, ?_, hw.trans hwr⟩
          have h2 := (HM.out.wr (c := n) (Nat.le_refl n)).base hw.size
          simpa [pthO, h0, tabL, pthV] using h2

end Go.Proofs.YtilcdnkkabmbfaaGreat
