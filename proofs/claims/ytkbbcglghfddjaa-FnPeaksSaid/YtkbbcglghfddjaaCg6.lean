/- Pair counts, margins, beats and covering as the two sides give them. Covering and transitivity. Candidates picked out by a relation to all others. How many each candidate beats, and how many beat it. -/
import Derived.Test.YtkbbcglghfddjaaCg5
import Derived.Test.YtkbbcglghfddjaaCg0
import Derived.Test.YtkbbcglghfddjaaCg3
namespace Go.Proofs.Ytkbbcglghfddjaa
open Go.RowKit

def pairO (sz : Int) (vs : List Vt) (x y : Int) : Int := if profOk sz vs && (hasB sz x && hasB sz y) then pairV vs x y else -1
def marginO (sz : Int) (vs : List Vt) (x y : Int) : Int := if profOk sz vs && (hasB sz x && hasB sz y) then marginV vs x y else 0

set_option maxRecDepth 100000 in
set_option maxHeartbeats 1000000 in
theorem margin_impl (w : World) (sz : Int) (a : Option Addr) (c : Nat) (vs : List Vt) (x y : Int) (hR : RdV w a vs) (hS : SmallV sz vs) :
    Calls Try.prog 45 #[.agg #[.int .i64 sz, .slice a vs.length c], .int .i64 x, .int .i64 y] w fun e w' => e = .returned (.int .i64 (marginV vs x y)) ∧ Ext w w' := by
  have b1 : 0 ≤ pairV vs x y ∧ pairV vs x y ≤ 24000 := sumV_bd' hS
  have b2 : 0 ≤ pairV vs y x ∧ pairV vs y x ≤ 24000 := sumV_bd' hS
  have q0 := new0 w (.int .i64 sz) [.slice a vs.length c] 26
  have q1 := new1 w (.int .i64 sz) (.slice a vs.length c) [] 26
  have w1 : wrap64 (pairV vs x y - pairV vs y x) = marginV vs x y := by rw [IntWalk.wrap64_in _ (by omega)]; rfl
  have w2 : IntKind.i64.wrap (pairV vs x y - pairV vs y x) = marginV vs x y := by rw [IntWalk.i64_left]; exact w1
  have HS := hide hS
  clear hS
  go_enter Try.func45, Try.ntmps45
  go_wp2
  refine wp_region_X (by kernel_rfl) (by kernel_rfl) ?_
  repeat' (refine wpX_stepQ (fun K hK => ?_)
           go_simp
           try (rw [if_neg (by intro h; simp [undef] at h)])
           try split
           all_goals
             first
             | (refine hK _ ?_
                clear hK K)
             | (apply Exists.intro
                refine ⟨fun wq hwq => ?_, hK _ ?_⟩
                · have hcq := hwq.cellS
                  go_simp
                  first
                  | exact ⟨Ext.refl _, rfl⟩
                  | exact ⟨Ext.refl _, pairI_impl _ _ _ _ _ _ _ (hR.ext (by repeat (first | exact Ext.refl _ | assumption | refine Ext.alloc ?_ _ | refine Ext.drew ?_ | refine Ext.trans ?_ (by assumption)))) HS.out⟩
                  | exact ⟨Ext.refl _, pairI_impl _ _ _ _ _ _ _ (hR.ext (by repeat (first | exact Ext.refl _ | assumption | refine Ext.alloc ?_ _ | refine Ext.drew ?_ | refine Ext.trans ?_ (by assumption)))) HS.out⟩
                clear hK K))
  refine wpX_nil (fun wz hwz => ?_)
  go_wp2
  go_ret
  exact ⟨rfl, (by repeat (first | exact Ext.refl _ | assumption | refine Ext.alloc ?_ _ | refine Ext.drew ?_ | refine Ext.trans ?_ (by assumption)))⟩

set_option maxRecDepth 100000 in
set_option maxHeartbeats 1000000 in
theorem beats_impl (w : World) (sz : Int) (a : Option Addr) (c : Nat) (vs : List Vt) (x y : Int) (hR : RdV w a vs) (hS : SmallV sz vs) :
    Calls Try.prog 61 #[.agg #[.int .i64 sz, .slice a vs.length c], .int .i64 x, .int .i64 y] w fun e w' => e = .returned (.bool (beatsV vs x y)) ∧ Ext w w' := by
  have HS := hide hS
  clear hS
  go_enter Try.func61, Try.ntmps61
  go_wp2_with (go_at_call 45; refine (margin_impl _ _ _ _ _ _ _ (hR.ext (by repeat (first | exact Ext.refl _ | assumption | refine Ext.alloc ?_ _ | refine Ext.drew ?_ | refine Ext.trans ?_ (by assumption)))) HS.out).mono ?_; rintro e w1 ⟨rfl, hw1⟩)
  go_ret
  exact ⟨ret_bool (by simp [beatsV, marginV]), (by repeat (first | exact Ext.refl _ | assumption | refine Ext.alloc ?_ _ | refine Ext.drew ?_ | refine Ext.trans ?_ (by assumption)))⟩

set_option maxRecDepth 100000 in
set_option maxHeartbeats 1000000 in
theorem pair_impl (w : World) (sz : Int) (a : Option Addr) (c : Nat) (vs : List Vt) (x y : Int) (hR : RdV w a vs) :
    Calls Try.prog 15 #[.agg #[.int .i64 sz, .slice a vs.length c], .int .i64 x, .int .i64 y] w fun e w' => e = .returned (.int .i64 (pairO sz vs x y)) ∧ Ext w w' := by
  have q0 := new0 w (.int .i64 sz) [.slice a vs.length c] 26
  have q1 := new1 w (.int .i64 sz) (.slice a vs.length c) [] 26
  cases h0 : profOk sz vs
  · go_enter Try.func15, Try.ntmps15
    go_wp2_with (go_at_call 17; refine (prof_impl _ _ _ _ _ (hR.ext (by repeat (first | exact Ext.refl _ | assumption | refine Ext.alloc ?_ _ | refine Ext.drew ?_ | refine Ext.trans ?_ (by assumption))))).mono ?_; rintro e w1 ⟨rfl, hw1⟩; have q0 := Ext.keep (w' := w1) (by repeat (first | exact Ext.refl _ | assumption | refine Ext.alloc ?_ _ | refine Ext.drew ?_ | refine Ext.trans ?_ (by assumption))) q0; have q1 := Ext.keep (w' := w1) (by repeat (first | exact Ext.refl _ | assumption | refine Ext.alloc ?_ _ | refine Ext.drew ?_ | refine Ext.trans ?_ (by assumption))) q1)
    go_ret
    exact ⟨ret_int (by simp [pairO, h0]), (by repeat (first | exact Ext.refl _ | assumption | refine Ext.alloc ?_ _ | refine Ext.drew ?_ | refine Ext.trans ?_ (by assumption)))⟩
  have ⟨s1, s2⟩ := prof_size h0
  have HS := hide (prof_small h0)
  cases h1 : hasB sz x <;> cases h2 : hasB sz y
  all_goals
    go_enter Try.func15, Try.ntmps15
    go_wp2_with (first | (go_at_call 17; refine (prof_impl _ _ _ _ _ (hR.ext (by repeat (first | exact Ext.refl _ | assumption | refine Ext.alloc ?_ _ | refine Ext.drew ?_ | refine Ext.trans ?_ (by assumption))))).mono ?_; rintro e w1 ⟨rfl, hw1⟩; have q0 := Ext.keep (w' := w1) (by repeat (first | exact Ext.refl _ | assumption | refine Ext.alloc ?_ _ | refine Ext.drew ?_ | refine Ext.trans ?_ (by assumption))) q0; have q1 := Ext.keep (w' := w1) (by repeat (first | exact Ext.refl _ | assumption | refine Ext.alloc ?_ _ | refine Ext.drew ?_ | refine Ext.trans ?_ (by assumption))) q1) | (go_at_call 46; refine (cand_impl _ _ _ _ _ _ s1 s2).mono ?_; rintro e w1 ⟨rfl, hw1⟩; have q0 := Ext.keep (w' := w1) (by repeat (first | exact Ext.refl _ | assumption | refine Ext.alloc ?_ _ | refine Ext.drew ?_ | refine Ext.trans ?_ (by assumption))) q0; have q1 := Ext.keep (w' := w1) (by repeat (first | exact Ext.refl _ | assumption | refine Ext.alloc ?_ _ | refine Ext.drew ?_ | refine Ext.trans ?_ (by assumption))) q1) | (go_at_call 47; refine (pairI_impl _ _ _ _ _ _ _ (hR.ext (by repeat (first | exact Ext.refl _ | assumption | refine Ext.alloc ?_ _ | refine Ext.drew ?_ | refine Ext.trans ?_ (by assumption)))) HS.out).mono ?_; rintro e w1 ⟨rfl, hw1⟩; have q0 := Ext.keep (w' := w1) (by repeat (first | exact Ext.refl _ | assumption | refine Ext.alloc ?_ _ | refine Ext.drew ?_ | refine Ext.trans ?_ (by assumption))) q0; have q1 := Ext.keep (w' := w1) (by repeat (first | exact Ext.refl _ | assumption | refine Ext.alloc ?_ _ | refine Ext.drew ?_ | refine Ext.trans ?_ (by assumption))) q1))
    go_ret
    exact ⟨ret_int (by simp [pairO, h0, h1, h2]), (by repeat (first | exact Ext.refl _ | assumption | refine Ext.alloc ?_ _ | refine Ext.drew ?_ | refine Ext.trans ?_ (by assumption)))⟩

set_option maxRecDepth 100000 in
set_option maxHeartbeats 1000000 in
theorem margin_impl' (w : World) (sz : Int) (a : Option Addr) (c : Nat) (vs : List Vt) (x y : Int) (hR : RdV w a vs) :
    Calls Try.prog 14 #[.agg #[.int .i64 sz, .slice a vs.length c], .int .i64 x, .int .i64 y] w fun e w' => e = .returned (.int .i64 (marginO sz vs x y)) ∧ Ext w w' := by
  have q0 := new0 w (.int .i64 sz) [.slice a vs.length c] 26
  have q1 := new1 w (.int .i64 sz) (.slice a vs.length c) [] 26
  cases h0 : profOk sz vs
  · go_enter Try.func14, Try.ntmps14
    go_wp2_with (go_at_call 17; refine (prof_impl _ _ _ _ _ (hR.ext (by repeat (first | exact Ext.refl _ | assumption | refine Ext.alloc ?_ _ | refine Ext.drew ?_ | refine Ext.trans ?_ (by assumption))))).mono ?_; rintro e w1 ⟨rfl, hw1⟩; have q0 := Ext.keep (w' := w1) (by repeat (first | exact Ext.refl _ | assumption | refine Ext.alloc ?_ _ | refine Ext.drew ?_ | refine Ext.trans ?_ (by assumption))) q0; have q1 := Ext.keep (w' := w1) (by repeat (first | exact Ext.refl _ | assumption | refine Ext.alloc ?_ _ | refine Ext.drew ?_ | refine Ext.trans ?_ (by assumption))) q1)
    go_ret
    exact ⟨ret_int (by simp [marginO, h0]), (by repeat (first | exact Ext.refl _ | assumption | refine Ext.alloc ?_ _ | refine Ext.drew ?_ | refine Ext.trans ?_ (by assumption)))⟩
  have ⟨s1, s2⟩ := prof_size h0
  have HS := hide (prof_small h0)
  cases h1 : hasB sz x <;> cases h2 : hasB sz y
  all_goals
    go_enter Try.func14, Try.ntmps14
    go_wp2_with (first | (go_at_call 17; refine (prof_impl _ _ _ _ _ (hR.ext (by repeat (first | exact Ext.refl _ | assumption | refine Ext.alloc ?_ _ | refine Ext.drew ?_ | refine Ext.trans ?_ (by assumption))))).mono ?_; rintro e w1 ⟨rfl, hw1⟩; have q0 := Ext.keep (w' := w1) (by repeat (first | exact Ext.refl _ | assumption | refine Ext.alloc ?_ _ | refine Ext.drew ?_ | refine Ext.trans ?_ (by assumption))) q0; have q1 := Ext.keep (w' := w1) (by repeat (first | exact Ext.refl _ | assumption | refine Ext.alloc ?_ _ | refine Ext.drew ?_ | refine Ext.trans ?_ (by assumption))) q1) | (go_at_call 46; refine (cand_impl _ _ _ _ _ _ s1 s2).mono ?_; rintro e w1 ⟨rfl, hw1⟩; have q0 := Ext.keep (w' := w1) (by repeat (first | exact Ext.refl _ | assumption | refine Ext.alloc ?_ _ | refine Ext.drew ?_ | refine Ext.trans ?_ (by assumption))) q0; have q1 := Ext.keep (w' := w1) (by repeat (first | exact Ext.refl _ | assumption | refine Ext.alloc ?_ _ | refine Ext.drew ?_ | refine Ext.trans ?_ (by assumption))) q1) | (go_at_call 45; refine (margin_impl _ _ _ _ _ _ _ (hR.ext (by repeat (first | exact Ext.refl _ | assumption | refine Ext.alloc ?_ _ | refine Ext.drew ?_ | refine Ext.trans ?_ (by assumption)))) HS.out).mono ?_; rintro e w1 ⟨rfl, hw1⟩; have q0 := Ext.keep (w' := w1) (by repeat (first | exact Ext.refl _ | assumption | refine Ext.alloc ?_ _ | refine Ext.drew ?_ | refine Ext.trans ?_ (by assumption))) q0; have q1 := Ext.keep (w' := w1) (by repeat (first | exact Ext.refl _ | assumption | refine Ext.alloc ?_ _ | refine Ext.drew ?_ | refine Ext.trans ?_ (by assumption))) q1))
    go_ret
    exact ⟨ret_int (by simp [marginO, h0, h1, h2]), (by repeat (first | exact Ext.refl _ | assumption | refine Ext.alloc ?_ _ | refine Ext.drew ?_ | refine Ext.trans ?_ (by assumption)))⟩

def allN (n : Nat) (p : Nat → Bool) : Bool := (List.range n).all p
set_option maxRecDepth 100000 in
theorem allN_t {n : Nat} {p : Nat → Bool} (h : ∀ j, j < n → p j = true) : allN n p = true := by
  unfold allN; rw [List.all_eq_true]; intro x hx; exact h x (List.mem_range.1 hx)
set_option maxRecDepth 100000 in
theorem allN_f {n : Nat} {p : Nat → Bool} {k : Nat} (hk : k < n) (h : p k = false) : allN n p = false := by
  unfold allN; rw [List.all_eq_false]; exact ⟨k, List.mem_range.2 hk, by simp [h]⟩
set_option maxRecDepth 100000 in
theorem upto_succ {p : Nat → Bool} {k : Nat} (h : ∀ j, j < k → p j = true) (hk : p k = true) : ∀ j, j < k + 1 → p j = true := fun j hj => by
  rcases Nat.lt_succ_iff_lt_or_eq.1 hj with h1 | rfl
  · exact h j h1
  · exact hk

def coversP (vs : List Vt) (a b : Int) (z : Nat) : Bool := !(beatsV vs z a && !beatsV vs z b)
def coversV (n : Nat) (vs : List Vt) (a b : Int) : Bool := beatsV vs a b && allN n (coversP vs a b)

def coverO (sz : Int) (vs : List Vt) (x y : Int) : Bool := profOk sz vs && (hasB sz x && (hasB sz y && coversV sz.toNat vs x y))
set_option maxRecDepth 100000 in
theorem prof_nat {sz : Int} {vs : List Vt} (h : profOk sz vs = true) : ∃ n : Nat, sz = n ∧ 1 ≤ n ∧ n ≤ 5 := by
  have := prof_size h
  exact ⟨sz.toNat, by omega, by omega, by omega⟩

def upL (n : Nat) (q : Nat → Bool) : List Int := ((List.range n).filter q).map (fun i : Nat => (i : Int))
set_option maxRecDepth 100000 in
theorem upL_succ (n : Nat) (q : Nat → Bool) : upL (n + 1) q = upL n q ++ if q n then [(n : Int)] else [] := by
  unfold upL
  rw [List.range_succ, List.filter_append, List.map_append]
  cases h : q n <;> simp [h]
set_option maxRecDepth 100000 in
theorem upL_len (n : Nat) (q : Nat → Bool) : (upL n q).length ≤ n := by
  unfold upL
  rw [List.length_map]
  exact Nat.le_trans (List.length_filter_le _ _) (by simp)
set_option maxRecDepth 100000 in
theorem upL_congr {n : Nat} {q q' : Nat → Bool} (h : ∀ i, i < n → q i = q' i) : upL n q = upL n q' := by
  unfold upL
  congr 1
  exact List.filter_congr (fun x hx => h x (List.mem_range.1 hx))
set_option maxRecDepth 100000 in
theorem allN_succ (n : Nat) (p : Nat → Bool) : allN (n + 1) p = (allN n p && p n) := by
  unfold allN; rw [List.range_succ, List.all_append]; simp

def thoseP (n : Nat) (p : Nat → Nat → Bool) (i : Nat) : Bool := allN n (fun j => decide (i = j) || p i j)
def thoseO (sz : Int) (vs : List Vt) (p : Nat → Nat → Bool) : List Int := if profOk sz vs then upL sz.toNat (thoseP sz.toNat p) else []

set_option maxRecDepth 100000 in
set_option maxHeartbeats 4000000 in
theorem those_impl (K : Nat) (cap : Array Value) (p : Nat → Nat → Bool) (w : World) (sz : Int) (a : Option Addr) (c : Nat) (vs : List Vt) (hR : RdV w a vs) (hK : Enters Try.prog K)
    (hf : ∀ (n i j : Nat) (w' : World), sz = n → n ≤ 5 → SmallV n vs → i < n → j < n → Ext w w' → Calls Try.prog K (#[.int .i64 i, .int .i64 j] ++ cap) w' fun e w'' => e = .returned (.bool (p i j)) ∧ Ext w' w'') :
    Calls Try.prog 85 #[.agg #[.int .i64 sz, .slice a vs.length c], .func (.func K) #[] cap] w fun e w' => ∃ v, e = .returned v ∧ OwnI w' w.heap.size v (thoseO sz vs p) ∧ Ext w w' := by
  unfold Enters at hK
  have q0 := new0 w (.int .i64 sz) [.slice a vs.length c] 26
  have q1 := new1 w (.int .i64 sz) (.slice a vs.length c) [] 26
  have HF := hide hf
  clear hf
  cases h0 : profOk sz vs
  · go_enter Try.func85, Try.ntmps85
    go_wp2_with (go_at_call 17; refine (prof_impl _ _ _ _ _ (hR.ext (by repeat (first | exact Ext.refl _ | assumption | refine Ext.alloc ?_ _ | refine Ext.drew ?_ | refine Ext.trans ?_ (by assumption))))).mono ?_; rintro e w1 ⟨rfl, hw1⟩; have q0 := Ext.keep (w' := w1) (by repeat (first | exact Ext.refl _ | assumption | refine Ext.alloc ?_ _ | refine Ext.drew ?_ | refine Ext.trans ?_ (by assumption))) q0; have q1 := Ext.keep (w' := w1) (by repeat (first | exact Ext.refl _ | assumption | refine Ext.alloc ?_ _ | refine Ext.drew ?_ | refine Ext.trans ?_ (by assumption))) q1)
    go_ret
    exact ⟨_, rfl, by simp [thoseO, h0]; exact OwnI.nil _ _, (by repeat (first | exact Ext.refl _ | assumption | refine Ext.alloc ?_ _ | refine Ext.drew ?_ | refine Ext.trans ?_ (by assumption)))⟩
  obtain ⟨n, rfl, n1, n2⟩ := prof_nat h0
  have HS := hide (prof_small h0)
  go_enter Try.func85, Try.ntmps85
  go_wp2_with (go_at_call 17; refine (prof_impl _ _ _ _ _ (hR.ext (by repeat (first | exact Ext.refl _ | assumption | refine Ext.alloc ?_ _ | refine Ext.drew ?_ | refine Ext.trans ?_ (by assumption))))).mono ?_; rintro e w1 ⟨rfl, hw1⟩; have q0 := Ext.keep (w' := w1) (by repeat (first | exact Ext.refl _ | assumption | refine Ext.alloc ?_ _ | refine Ext.drew ?_ | refine Ext.trans ?_ (by assumption))) q0; have q1 := Ext.keep (w' := w1) (by repeat (first | exact Ext.refl _ | assumption | refine Ext.alloc ?_ _ | refine Ext.drew ?_ | refine Ext.trans ?_ (by assumption))) q1)
  have hw : Ext w w1 := (by repeat (first | exact Ext.refl _ | assumption | refine Ext.alloc ?_ _ | refine Ext.drew ?_ | refine Ext.trans ?_ (by assumption)))
  obtain ⟨W0, rfl⟩ : ∃ W0 : World, W0 = w1 := ⟨_, rfl⟩
  go_loopw [5, 6, 7, 8, 14, 18, 19] (fun v _ _ _ i _ _ wr => ∃ k : Nat, k ≤ n ∧ i = .int .i64 k ∧ OwnI wr W0.heap.size v (upL k (thoseP n p)) ∧ Ext W0 wr) (fun _ _ _ _ i _ _ _ => n - (intOf i).toNat)
  case atStart => exact ⟨0, Nat.zero_le _, rfl, OwnI.nil _ _, Ext.refl _⟩
  case round =>
    obtain ⟨i, hi, rfl, hown, hwr⟩ := hrel
    have q0' := hwr.keep q0
    by_cases hit : i < n
    · go_wp2
      obtain ⟨wo, hwo⟩ : ∃ wo : World, wo = wr := ⟨_, rfl⟩
      subst hwo
      go_loopw [7, 8, 19] (fun b _ m wr => ∃ k : Nat, k ≤ n ∧ m = .int .i64 k ∧ b = .bool (allN k (fun j => decide (i = j) || p i j)) ∧ Ext wo wr) (fun _ _ m _ => n - (intOf m).toNat)
      case atStart => exact ⟨0, Nat.zero_le _, rfl, rfl, Ext.refl _⟩
      case round =>
        obtain ⟨k, hk, rfl, rfl, hwr'⟩ := hrel
        have q0' := hwr'.keep q0'
        by_cases hlt : k < n
        · cases h1 : allN k (fun j => decide (i = j) || p i j)
          · go_wp2
            exact ⟨⟨k + 1, by omega, by go_num, by rw [allN_succ, h1]; simp, (by repeat (first | exact Ext.refl _ | assumption | refine Ext.alloc ?_ _ | refine Ext.drew ?_ | refine Ext.trans ?_ (by assumption)))⟩, by simp [intOf]; omega⟩
          · by_cases e : i = k
            · have e' : (i : Int) = (k : Int) := by omega
              go_wp2
              exact ⟨⟨k + 1, by omega, by go_num, by rw [allN_succ, h1]; simp [e], (by repeat (first | exact Ext.refl _ | assumption | refine Ext.alloc ?_ _ | refine Ext.drew ?_ | refine Ext.trans ?_ (by assumption)))⟩, by simp [intOf]; omega⟩
            · have e' : ¬ (i : Int) = (k : Int) := by omega
              go_wp2_with fail
              refine (HF.out n i k _ rfl n2 HS.out hit hlt (by repeat (first | exact Ext.refl _ | assumption | refine Ext.alloc ?_ _ | refine Ext.drew ?_ | refine Ext.trans ?_ (by assumption)))).mono ?_
              rintro e w1 ⟨rfl, hw1⟩
              go_wp2
              exact ⟨⟨k + 1, by omega, by go_num, by rw [allN_succ, h1]; simp [e, e'], (by repeat (first | exact Ext.refl _ | assumption | refine Ext.alloc ?_ _ | refine Ext.drew ?_ | refine Ext.trans ?_ (by assumption)))⟩, by simp [intOf]; omega⟩
        · obtain rfl : k = n := by omega
          have hown := hown.ext hwr'
          have HT : allN k (fun j => decide (i = j) || p i j) = thoseP k p i := rfl
          rw [HT]
          cases h1 : thoseP k p i
          · go_wp2
            exact ⟨⟨i + 1, by omega, by go_num, by rw [upL_succ, h1]; simpa using hown, (by repeat (first | exact Ext.refl _ | assumption | refine Ext.alloc ?_ _ | refine Ext.drew ?_ | refine Ext.trans ?_ (by assumption)))⟩, by simp [intOf]; omega⟩
          · go_wp2_with (at_builtin; refine wpList_appI W0 _ rfl _ _ rfl _ (upL i (thoseP k p)) _ rfl (hown.ext (by repeat (first | exact Ext.refl _ | assumption | refine Ext.alloc ?_ _ | refine Ext.drew ?_ | refine Ext.trans ?_ (by assumption)))) (by repeat (first | exact Ext.refl _ | assumption | refine Ext.alloc ?_ _ | refine Ext.drew ?_ | refine Ext.trans ?_ (by assumption))) rfl (by have := upL_len i (thoseP k p); omega) ?_; intro v' w3 hown3 hw3)
            exact ⟨⟨i + 1, by omega, by go_num, by rw [upL_succ, h1]; exact hown3, (by repeat (first | exact Ext.refl _ | assumption | refine Ext.alloc ?_ _ | refine Ext.drew ?_ | refine Ext.trans ?_ (by assumption)))⟩, by simp [intOf]; omega⟩
    · obtain rfl : i = n := by omega
      go_wp2
      go_ret
      exact ⟨_, rfl, by simp [thoseO, h0]; exact hown.base hw.size, hw.trans hwr⟩

def onlyL (xs : List Int) : Int := match xs with | [x] => x | _ => -1

set_option maxRecDepth 100000 in
set_option maxHeartbeats 2000000 in
theorem only_impl (K : Nat) (cap : Array Value) (p : Nat → Nat → Bool) (w : World) (sz : Int) (a : Option Addr) (c : Nat) (vs : List Vt) (hR : RdV w a vs) (hK : Enters Try.prog K)
    (hf : ∀ (n i j : Nat) (w' : World), sz = n → n ≤ 5 → SmallV n vs → i < n → j < n → Ext w w' → Calls Try.prog K (#[.int .i64 i, .int .i64 j] ++ cap) w' fun e w'' => e = .returned (.bool (p i j)) ∧ Ext w' w'') :
    Calls Try.prog 59 #[.agg #[.int .i64 sz, .slice a vs.length c], .func (.func K) #[] cap] w fun e w' => e = .returned (.int .i64 (onlyL (thoseO sz vs p))) ∧ Ext w w' := by
  have HF := hide hf
  clear hf
  have hl : (thoseO sz vs p).length ≤ 5 := by
    unfold thoseO
    cases h0 : profOk sz vs
    · simp
    · obtain ⟨n, rfl, n1, n2⟩ := prof_nat h0
      have := upL_len n (thoseP n p)
      simp; omega
  obtain ⟨xs, hxs⟩ : ∃ xs, xs = thoseO sz vs p := ⟨_, rfl⟩
  rw [← hxs] at hl ⊢
  have HX := hide hxs
  clear hxs
  go_enter Try.func59, Try.ntmps59
  go_wp2_with fail
  refine (those_impl K cap p _ sz a c vs (hR.ext (by repeat (first | exact Ext.refl _ | assumption | refine Ext.alloc ?_ _ | refine Ext.drew ?_ | refine Ext.trans ?_ (by assumption)))) hK (fun n i j w' h1 h2 h3 h4 h5 h6 => HF.out n i j w' h1 h2 h3 h4 h5 ((Ext.new _ _).trans h6))).mono ?_
  rintro e w1 ⟨v, rfl, hv, hw1⟩
  rw [← HX.out] at hv
  clear HX HF
  obtain ⟨a', c', rfl, hc', hm', hR', _⟩ := hv.val
  rcases xs with _ | ⟨x, _ | ⟨y, ys⟩⟩
  · go_wp2
    go_ret
    exact ⟨rfl, (by repeat (first | exact Ext.refl _ | assumption | refine Ext.alloc ?_ _ | refine Ext.drew ?_ | refine Ext.trans ?_ (by assumption)))⟩
  · obtain ⟨b, off, rfl, c0⟩ := hR'.at_ (k := 0) (x := x) rfl
    rw [Nat.add_zero] at c0
    go_wp2
    go_ret
    exact ⟨rfl, (by repeat (first | exact Ext.refl _ | assumption | refine Ext.alloc ?_ _ | refine Ext.drew ?_ | refine Ext.trans ?_ (by assumption)))⟩
  · simp at hl
    have e1 : (ys.length : Int) + 1 + 1 ≠ 1 := by omega
    go_wp2
    go_ret
    exact ⟨rfl, (by repeat (first | exact Ext.refl _ | assumption | refine Ext.alloc ?_ _ | refine Ext.drew ?_ | refine Ext.trans ?_ (by assumption)))⟩

def cntN (n : Nat) (q : Nat → Bool) : Nat := (List.range n).countP q
set_option maxRecDepth 100000 in
theorem cntN_succ (n : Nat) (q : Nat → Bool) : cntN (n + 1) q = cntN n q + if q n then 1 else 0 := by
  unfold cntN
  rw [List.range_succ, List.countP_append, List.countP_singleton]
set_option maxRecDepth 100000 in
theorem cntN_le (n : Nat) (q : Nat → Bool) : cntN n q ≤ n := by
  have := List.countP_le_length (p := q) (l := List.range n)
  unfold cntN
  simpa using this
set_option maxRecDepth 100000 in
theorem cntN_zero (q : Nat → Bool) : cntN 0 q = 0 := by simp [cntN]
def rowL (n : Nat) (f : Nat → Int) : List Int := (List.range n).map f
set_option maxRecDepth 100000 in
theorem rowL_len (n : Nat) (f : Nat → Int) : (rowL n f).length = n := by simp [rowL]
set_option maxRecDepth 100000 in
theorem rowL_at {n : Nat} {f : Nat → Int} {j : Nat} (h : j < n) : (rowL n f)[j]? = some (f j) := by simp [rowL, h]
set_option maxRecDepth 100000 in
theorem rowL_val {n : Nat} {f : Nat → Int} {j : Nat} {x : Int} (h : (rowL n f)[j]? = some x) : j < n ∧ x = f j := by
  have hj := lt_of_at h
  rw [rowL_len] at hj
  rw [rowL_at hj] at h
  injection h with h
  exact ⟨hj, h.symm⟩
set_option maxRecDepth 100000 in
theorem rowL_succ (n : Nat) (f : Nat → Int) : rowL (n + 1) f = rowL n f ++ [f n] := by simp [rowL, List.range_succ]
set_option maxRecDepth 100000 in
theorem rowL_congr {n : Nat} {f g : Nat → Int} (h : ∀ j, j < n → f j = g j) : rowL n f = rowL n g := by
  unfold rowL
  exact List.map_congr_left (fun x hx => h x (List.mem_range.1 hx))

/-- B: how i stands to j. The tables after the rows below i and m places of row i. -/
def tabU (n : Nat) (B : Nat → Nat → Bool) (i m o : Nat) : Nat := if o < i then cntN n (B o) else if o = i then cntN m (B i) else 0
def tabD (B : Nat → Nat → Bool) (i m o : Nat) : Nat := cntN (if o < m then i + 1 else i) (fun x => B x o)
set_option maxRecDepth 100000 in
theorem tabU_zero (n : Nat) (B : Nat → Nat → Bool) (o : Nat) : tabU n B 0 0 o = 0 := by
  unfold tabU; rw [if_neg (by omega)]; split <;> simp [cntN]
set_option maxRecDepth 100000 in
theorem tabD_zero (B : Nat → Nat → Bool) (o : Nat) : tabD B 0 0 o = 0 := by
  unfold tabD; rw [if_neg (by omega)]; simp [cntN]
set_option maxRecDepth 100000 in
theorem tabU_at (n : Nat) (B : Nat → Nat → Bool) (i m : Nat) : tabU n B i m i = cntN m (B i) := by
  unfold tabU; rw [if_neg (by omega), if_pos rfl]
set_option maxRecDepth 100000 in
theorem tabD_at (B : Nat → Nat → Bool) (i m : Nat) : tabD B i m m = cntN i (fun x => B x m) := by
  unfold tabD; rw [if_neg (by omega)]
set_option maxRecDepth 100000 in
theorem tabU_step (n : Nat) (B : Nat → Nat → Bool) (i m o : Nat) : tabU n B i (m + 1) o = tabU n B i m o + if o = i then (if B i m then 1 else 0) else 0 := by
  unfold tabU
  by_cases h1 : o < i
  · rw [if_pos h1, if_pos h1, if_neg (by omega)]; rfl
  · by_cases h2 : o = i
    · rw [if_neg h1, if_neg h1, if_pos h2, if_pos h2, if_pos h2, cntN_succ]
    · rw [if_neg h1, if_neg h1, if_neg h2, if_neg h2, if_neg h2]
set_option maxRecDepth 100000 in
theorem tabD_step (B : Nat → Nat → Bool) (i m o : Nat) : tabD B i (m + 1) o = tabD B i m o + if o = m then (if B i m then 1 else 0) else 0 := by
  unfold tabD
  by_cases h1 : o < m
  · rw [if_pos h1, if_pos (by omega), if_neg (by omega)]; rfl
  · by_cases h2 : o = m
    · subst h2; rw [if_neg h1, if_pos (by omega), if_pos rfl, cntN_succ]
    · rw [if_neg h1, if_neg (by omega), if_neg h2]; rfl
set_option maxRecDepth 100000 in
theorem tabU_done (n : Nat) (B : Nat → Nat → Bool) (i o : Nat) : tabU n B i n o = tabU n B (i + 1) 0 o := by
  unfold tabU
  by_cases h1 : o < i
  · rw [if_pos h1, if_pos (by omega)]
  · by_cases h2 : o = i
    · subst h2; rw [if_neg h1, if_pos rfl, if_pos (by omega)]
    · rw [if_neg h1, if_neg h2, if_neg (by omega)]; split <;> simp [cntN]
set_option maxRecDepth 100000 in
theorem tabD_done (n : Nat) (B : Nat → Nat → Bool) (i o : Nat) (h : o < n) : tabD B i n o = tabD B (i + 1) 0 o := by
  unfold tabD; rw [if_pos h, if_neg (by omega)]
set_option maxRecDepth 100000 in
theorem tab_le (n : Nat) (B : Nat → Nat → Bool) (i m : Nat) (hm : m ≤ n) (o : Nat) : tabU n B i m o ≤ n := by
  unfold tabU
  split
  · exact cntN_le _ _
  · split
    · exact Nat.le_trans (cntN_le _ _) hm
    · omega
def iv (x : Nat) : Value := .int .i64 (x : Int)

def bt (vs : List Vt) (i j : Nat) : Bool := beatsV vs (i : Int) (j : Int)
def upsL (n : Nat) (vs : List Vt) : List Int := rowL n (fun i => (cntN n (bt vs i) : Nat))
def dnsL (n : Nat) (vs : List Vt) : List Int := rowL n (fun j => (cntN n (fun i => bt vs i j) : Nat))

end Go.Proofs.Ytkbbcglghfddjaa
