/- Candidates picked out by a relation to all others. -/
import Derived.Test.YtacmabdeocmheaaCover
namespace Go.Proofs.Ytacmabdeocmheaa
open Go.RowKit

def upL (n : Nat) (q : Nat → Bool) : List Int := ((List.range n).filter q).map (fun i : Nat => (i : Int))
set_option maxRecDepth 100000 in
theorem upL_succ (n : Nat) (q : Nat → Bool) : upL (n + 1) q = upL n q ++ if q n then [(n : Int)] else [] := by
  unfold upL
  rw [List.range_succ, List.filter_append, List.map_append]
  cases h : q n <;> simp [h]
set_option maxRecDepth 100000 in
theorem upL_len (n : Nat) (q : Nat → Bool) : (upL n q).length ≤ n := by
  unfold upL
  rw [List.length_map]
  exact Nat.le_trans (List.length_filter_le _ _) (by simp)
set_option maxRecDepth 100000 in
theorem upL_congr {n : Nat} {q q' : Nat → Bool} (h : ∀ i, i < n → q i = q' i) : upL n q = upL n q' := by
  unfold upL
  congr 1
  exact List.filter_congr (fun x hx => h x (List.mem_range.1 hx))
set_option maxRecDepth 100000 in
theorem allN_succ (n : Nat) (p : Nat → Bool) : allN (n + 1) p = (allN n p && p n) := by
  unfold allN; rw [List.range_succ, List.all_append]; simp

def thoseP (n : Nat) (p : Nat → Nat → Bool) (i : Nat) : Bool := allN n (fun j => decide (i = j) || p i j)
def thoseO (sz : Int) (vs : List Vt) (p : Nat → Nat → Bool) : List Int := if profOk sz vs then upL sz.toNat (thoseP sz.toNat p) else []

set_option maxRecDepth 100000 in
set_option maxHeartbeats 4000000 in
theorem those_impl (K : Nat) (cap : Array Value) (p : Nat → Nat → Bool) (w : World) (sz : Int) (a : Option Addr) (c : Nat) (vs : List Vt) (hR : RdV w a vs) (hK : Enters Try.prog K)
    (hf : ∀ (n i j : Nat) (w' : World), sz = n → n ≤ 5 → SmallV n vs → i < n → j < n → Ext w w' → Calls Try.prog K (#[.int .i64 i, .int .i64 j] ++ cap) w' fun e w'' => e = .returned (.bool (p i j)) ∧ Ext w' w'') :
    Calls Try.prog 199 #[.agg #[.int .i64 sz, .slice a vs.length c], .func (.func K) #[] cap] w fun e w' => ∃ v, e = .returned v ∧ OwnI w' w.heap.size v (thoseO sz vs p) ∧ Ext w w' := by
  unfold Enters at hK
  have q0 := new0 w (.int .i64 sz) [.slice a vs.length c] 43
  have q1 := new1 w (.int .i64 sz) (.slice a vs.length c) [] 43
  have HF := hide hf
  clear hf
  cases h0 : profOk sz vs
  · go_enter Try.func199, Try.ntmps199
    go_wp2_with (go_at_call 63; refine (prof_impl _ _ _ _ _ (hR.ext (by repeat (first | exact Ext.refl _ | assumption | refine Ext.alloc ?_ _ | refine Ext.drew ?_ | refine Ext.trans ?_ (by assumption))))).mono ?_; rintro e w1 ⟨rfl, hw1⟩; have q0 := Ext.keep (w' := w1) (by repeat (first | exact Ext.refl _ | assumption | refine Ext.alloc ?_ _ | refine Ext.drew ?_ | refine Ext.trans ?_ (by assumption))) q0; have q1 := Ext.keep (w' := w1) (by repeat (first | exact Ext.refl _ | assumption | refine Ext.alloc ?_ _ | refine Ext.drew ?_ | refine Ext.trans ?_ (by assumption))) q1)
    go_ret
    exact ⟨_, rfl, by simp [thoseO, h0]; exact OwnI.nil _ _, (by repeat (first | exact Ext.refl _ | assumption | refine Ext.alloc ?_ _ | refine Ext.drew ?_ | refine Ext.trans ?_ (by assumption)))⟩
  obtain ⟨n, rfl, n1, n2⟩ := prof_nat h0
  have HS := hide (prof_small h0)
  go_enter Try.func199, Try.ntmps199
  go_wp2_with (go_at_call 63; refine (prof_impl _ _ _ _ _ (hR.ext (by repeat (first | exact Ext.refl _ | assumption | refine Ext.alloc ?_ _ | refine Ext.drew ?_ | refine Ext.trans ?_ (by assumption))))).mono ?_; rintro e w1 ⟨rfl, hw1⟩; have q0 := Ext.keep (w' := w1) (by repeat (first | exact Ext.refl _ | assumption | refine Ext.alloc ?_ _ | refine Ext.drew ?_ | refine Ext.trans ?_ (by assumption))) q0; have q1 := Ext.keep (w' := w1) (by repeat (first | exact Ext.refl _ | assumption | refine Ext.alloc ?_ _ | refine Ext.drew ?_ | refine Ext.trans ?_ (by assumption))) q1)
  have hw : Ext w w1 := (by repeat (first | exact Ext.refl _ | assumption | refine Ext.alloc ?_ _ | refine Ext.drew ?_ | refine Ext.trans ?_ (by assumption)))
  obtain ⟨W0, rfl⟩ : ∃ W0 : World, W0 = w1 := ⟨_, rfl⟩
  go_loopw [5, 6, 7, 8, 14, 18, 19] (fun v _ _ _ i _ _ wr => ∃ k : Nat, k ≤ n ∧ i = .int .i64 k ∧ OwnI wr W0.heap.size v (upL k (thoseP n p)) ∧ Ext W0 wr) (fun _ _ _ _ i _ _ _ => n - (intOf i).toNat)
  case atStart => exact ⟨0, Nat.zero_le _, rfl, OwnI.nil _ _, Ext.refl _⟩
  case round =>
    obtain ⟨i, hi, rfl, hown, hwr⟩ := hrel
    have q0' := hwr.keep q0
    by_cases hit : i < n
    · go_wp2
      obtain ⟨wo, hwo⟩ : ∃ wo : World, wo = wr := ⟨_, rfl⟩
      subst hwo
      go_loopw [7, 8, 19] (fun b _ m wr => ∃ k : Nat, k ≤ n ∧ m = .int .i64 k ∧ b = .bool (allN k (fun j => decide (i = j) || p i j)) ∧ Ext wo wr) (fun _ _ m _ => n - (intOf m).toNat)
      case atStart => exact ⟨0, Nat.zero_le _, rfl, rfl, Ext.refl _⟩
      case round =>
        obtain ⟨k, hk, rfl, rfl, hwr'⟩ := hrel
        have q0' := hwr'.keep q0'
        by_cases hlt : k < n
        · cases h1 : allN k (fun j => decide (i = j) || p i j)
          · go_wp2
            exact ⟨⟨k + 1, by omega, by go_num, by rw [allN_succ, h1]; simp, (by repeat (first | exact Ext.refl _ | assumption | refine Ext.alloc ?_ _ | refine Ext.drew ?_ | refine Ext.trans ?_ (by assumption)))⟩, by simp [intOf]; omega⟩
          · by_cases e : i = k
            · have e' : (i : Int) = (k : Int) := by omega
              go_wp2
              exact ⟨⟨k + 1, by omega, by go_num, by rw [allN_succ, h1]; simp [e], (by repeat (first | exact Ext.refl _ | assumption | refine Ext.alloc ?_ _ | refine Ext.drew ?_ | refine Ext.trans ?_ (by assumption)))⟩, by simp [intOf]; omega⟩
            · have e' : ¬ (i : Int) = (k : Int) := by omega
              go_wp2_with fail
              refine (HF.out n i k _ rfl n2 HS.out hit hlt (by repeat (first | exact Ext.refl _ | assumption | refine Ext.alloc ?_ _ | refine Ext.drew ?_ | refine Ext.trans ?_ (by assumption)))).mono ?_
              rintro e w1 ⟨rfl, hw1⟩
              go_wp2
              exact ⟨⟨k + 1, by omega, by go_num, by rw [allN_succ, h1]; simp [e, e'], (by repeat (first | exact Ext.refl _ | assumption | refine Ext.alloc ?_ _ | refine Ext.drew ?_ | refine Ext.trans ?_ (by assumption)))⟩, by simp [intOf]; omega⟩
        · obtain rfl : k = n := by omega
          have hown := hown.ext hwr'
          have HT : allN k (fun j => decide (i = j) || p i j) = thoseP k p i := rfl
          rw [HT]
          cases h1 : thoseP k p i
          · go_wp2
            exact ⟨⟨i + 1, by omega, by go_num, by rw [upL_succ, h1]; simpa using hown, (by repeat (first | exact Ext.refl _ | assumption | refine Ext.alloc ?_ _ | refine Ext.drew ?_ | refine Ext.trans ?_ (by assumption)))⟩, by simp [intOf]; omega⟩
          · go_wp2_with (at_builtin; refine wpList_appI W0 _ rfl _ _ rfl _ (upL i (thoseP k p)) _ rfl (hown.ext (by repeat (first | exact Ext.refl _ | assumption | refine Ext.alloc ?_ _ | refine Ext.drew ?_ | refine Ext.trans ?_ (by assumption)))) (by repeat (first | exact Ext.refl _ | assumption | refine Ext.alloc ?_ _ | refine Ext.drew ?_ | refine Ext.trans ?_ (by assumption))) rfl (by have := upL_len i (thoseP k p); omega) ?_; intro v' w3 hown3 hw3)
            exact ⟨⟨i + 1, by omega, by go_num, by rw [upL_succ, h1]; exact hown3, (by repeat (first | exact Ext.refl _ | assumption | refine Ext.alloc ?_ _ | refine Ext.drew ?_ | refine Ext.trans ?_ (by assumption)))⟩, by simp [intOf]; omega⟩
    · obtain rfl : i = n := by omega
      go_wp2
      go_ret
      exact ⟨_, rfl, by simp [thoseO, h0]; exact hown.base hw.size, hw.trans hwr⟩

def onlyL (xs : List Int) : Int := match xs with | [x] => x | _ => -1

set_option maxRecDepth 100000 in
set_option maxHeartbeats 2000000 in
theorem only_impl (K : Nat) (cap : Array Value) (p : Nat → Nat → Bool) (w : World) (sz : Int) (a : Option Addr) (c : Nat) (vs : List Vt) (hR : RdV w a vs) (hK : Enters Try.prog K)
    (hf : ∀ (n i j : Nat) (w' : World), sz = n → n ≤ 5 → SmallV n vs → i < n → j < n → Ext w w' → Calls Try.prog K (#[.int .i64 i, .int .i64 j] ++ cap) w' fun e w'' => e = .returned (.bool (p i j)) ∧ Ext w' w'') :
    Calls Try.prog 192 #[.agg #[.int .i64 sz, .slice a vs.length c], .func (.func K) #[] cap] w fun e w' => e = .returned (.int .i64 (onlyL (thoseO sz vs p))) ∧ Ext w w' := by
  have HF := hide hf
  clear hf
  have hl : (thoseO sz vs p).length ≤ 5 := by
    unfold thoseO
    cases h0 : profOk sz vs
    · simp
    · obtain ⟨n, rfl, n1, n2⟩ := prof_nat h0
      have := upL_len n (thoseP n p)
      simp; omega
  obtain ⟨xs, hxs⟩ : ∃ xs, xs = thoseO sz vs p := ⟨_, rfl⟩
  rw [← hxs] at hl ⊢
  have HX := hide hxs
  clear hxs
  go_enter Try.func192, Try.ntmps192
  go_wp2_with fail
  refine (those_impl K cap p _ sz a c vs (hR.ext (by repeat (first | exact Ext.refl _ | assumption | refine Ext.alloc ?_ _ | refine Ext.drew ?_ | refine Ext.trans ?_ (by assumption)))) hK (fun n i j w' h1 h2 h3 h4 h5 h6 => HF.out n i j w' h1 h2 h3 h4 h5 ((Ext.new _ _).trans h6))).mono ?_
  rintro e w1 ⟨v, rfl, hv, hw1⟩
  rw [← HX.out] at hv
  clear HX HF
  obtain ⟨a', c', rfl, hc', hm', hR', _⟩ := hv.val
  rcases xs with _ | ⟨x, _ | ⟨y, ys⟩⟩
  · go_wp2
    go_ret
    exact ⟨rfl, (by repeat (first | exact Ext.refl _ | assumption | refine Ext.alloc ?_ _ | refine Ext.drew ?_ | refine Ext.trans ?_ (by assumption)))⟩
  · obtain ⟨b, off, rfl, c0⟩ := hR'.at_ (k := 0) (x := x) rfl
    rw [Nat.add_zero] at c0
    go_wp2
    go_ret
    exact ⟨rfl, (by repeat (first | exact Ext.refl _ | assumption | refine Ext.alloc ?_ _ | refine Ext.drew ?_ | refine Ext.trans ?_ (by assumption)))⟩
  · simp at hl
    have e1 : (ys.length : Int) + 1 + 1 ≠ 1 := by omega
    go_wp2
    go_ret
    exact ⟨rfl, (by repeat (first | exact Ext.refl _ | assumption | refine Ext.alloc ?_ _ | refine Ext.drew ?_ | refine Ext.trans ?_ (by assumption)))⟩

end Go.Proofs.Ytacmabdeocmheaa
