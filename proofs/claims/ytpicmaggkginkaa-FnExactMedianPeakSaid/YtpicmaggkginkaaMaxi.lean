/- Maximin scores. -/
import Derived.Test.YtpicmaggkginkaaCond
import Derived.Test.YtpicmaggkginkaaRep
namespace Go.Proofs.Ytpicmaggkginkaa
open Go.RowKit

def allV (vs : List Vt) : Int := sumV (fun _ => true) vs
def minTo (vs : List Vt) (V : Int) (i : Nat) : Nat → Int
  | 0 => V
  | m + 1 => if i = m then minTo vs V i m else min (minTo vs V i m) (pairV vs i m)
set_option maxRecDepth 100000 in
theorem min_if (x y : Int) : (if y < x then y else x) = min x y := by split <;> omega
set_option maxRecDepth 100000 in
theorem minTo_bd {sz : Int} {vs : List Vt} (hS : SmallV sz vs) (i : Nat) : ∀ m, 0 ≤ minTo vs (allV vs) i m ∧ minTo vs (allV vs) i m ≤ 24000
  | 0 => by unfold minTo; exact sumV_bd' hS
  | m + 1 => by
    have h1 := minTo_bd hS i m
    have h2 : 0 ≤ pairV vs i m ∧ pairV vs i m ≤ 24000 := sumV_bd' hS
    unfold minTo
    split
    · exact h1
    · omega
def maxiO (sz : Int) (vs : List Vt) : List Int := if profOk sz vs then rowL sz.toNat (fun i => minTo vs (allV vs) i sz.toNat) else []
set_option maxRecDepth 100000 in
theorem maxiO_len (sz : Int) (vs : List Vt) : (maxiO sz vs).length ≤ 5 := by
  unfold maxiO
  cases h0 : profOk sz vs
  · simp
  · obtain ⟨n, rfl, n1, n2⟩ := prof_nat h0
    simp [rowL_len]; omega

set_option maxRecDepth 100000 in
set_option maxHeartbeats 1000000 in
theorem allV_spec (w : World) (sz : Int) (a : Option Addr) (c : Nat) (vs : List Vt) (hR : RdV w a vs) (hS : SmallV sz vs) :
    Calls Try.prog 72 #[.agg #[.int .i64 sz, .slice a vs.length c]] w fun e w' => e = .returned (.int .i64 (allV vs)) ∧ Ext w w' := by
  have HS := hide hS
  have hl := hS.1
  clear hS
  go_enter Try.func72, Try.ntmps72
  go_wp2_with fail
  have hw := Ext.new w (.cells #[.int .i64 sz, .slice a vs.length c] 30)
  generalize w.alloc (.cells #[.int .i64 sz, .slice a vs.length c] 30) = W0 at hw ⊢
  go_loopw [3, 5, 9] (fun s _ i wr => ∃ k : Nat, k ≤ vs.length ∧ i = .int .i64 k ∧ s = .int .i64 (sumV (fun _ => true) (vs.take k)) ∧ Ext W0 wr) (fun _ _ i _ => vs.length - (intOf i).toNat)
  case atStart => exact ⟨0, Nat.zero_le _, rfl, rfl, (by repeat (first | exact Ext.refl _ | assumption | refine Ext.alloc ?_ _ | refine Ext.drew ?_ | refine Ext.trans ?_ (by assumption)))⟩
  case round =>
    obtain ⟨k, hk, rfl, rfl, hwr⟩ := hrel
    obtain ⟨b1, b2⟩ := sumV_bd HS.out k hk (p := fun _ => true)
    by_cases hlt : k < vs.length
    · obtain ⟨v, hx⟩ := at_of_lt hlt
      obtain ⟨b, off, a', c', rfl, c0, c1, hc', hRx⟩ := (hR.ext (hw.trans hwr)).at_ hx
      obtain ⟨x0, x1, x2⟩ := HS.out.2 v (List.mem_of_getElem? hx)
      have HX := hide hx
      clear hx x0
      go_wp2
      exact ⟨⟨k + 1, by omega, by go_num, by rw [sumV_at HX.out]; simp, (by repeat (first | exact Ext.refl _ | assumption | refine Ext.alloc ?_ _ | refine Ext.drew ?_ | refine Ext.trans ?_ (by assumption)))⟩, by simp [intOf]; omega⟩
    · go_wp2
      go_ret
      exact ⟨ret_int (by rw [List.take_of_length_le (by omega)]; rfl), hw.trans hwr⟩

set_option maxRecDepth 100000 in
set_option maxHeartbeats 1000000 in
theorem trueF (w : World) (a : Value) : Calls Try.prog 125 #[a] w fun e w' => e = .returned (.bool true) ∧ Ext w w' := by
  go_enter Try.func125, Try.ntmps125
  go_wp2
  go_ret
  exact ⟨rfl, Ext.refl _⟩
set_option maxRecDepth 100000 in
set_option maxHeartbeats 1000000 in
theorem count_impl (w : World) (sz : Int) (a : Option Addr) (c : Nat) (vs : List Vt) (hR : RdV w a vs) :
    Calls Try.prog 75 #[.agg #[.int .i64 sz, .slice a vs.length c]] w fun e w' => e = .returned (.int .i64 (if profOk sz vs then allV vs else -1)) ∧ Ext w w' := by
  have q0 := new0 w (.int .i64 sz) [.slice a vs.length c] 30
  have q1 := new1 w (.int .i64 sz) (.slice a vs.length c) [] 30
  cases h0 : profOk sz vs
  · go_enter Try.func75, Try.ntmps75
    go_wp2_with (go_at_call 55; refine (prof_impl _ _ _ _ _ (hR.ext (by repeat (first | exact Ext.refl _ | assumption | refine Ext.alloc ?_ _ | refine Ext.drew ?_ | refine Ext.trans ?_ (by assumption))))).mono ?_; rintro e w1 ⟨rfl, hw1⟩; have q0 := Ext.keep (w' := w1) (by repeat (first | exact Ext.refl _ | assumption | refine Ext.alloc ?_ _ | refine Ext.drew ?_ | refine Ext.trans ?_ (by assumption))) q0; have q1 := Ext.keep (w' := w1) (by repeat (first | exact Ext.refl _ | assumption | refine Ext.alloc ?_ _ | refine Ext.drew ?_ | refine Ext.trans ?_ (by assumption))) q1)
    go_ret
    exact ⟨ret_int (by simp), (by repeat (first | exact Ext.refl _ | assumption | refine Ext.alloc ?_ _ | refine Ext.drew ?_ | refine Ext.trans ?_ (by assumption)))⟩
  · have HS := hide (prof_small h0)
    go_enter Try.func75, Try.ntmps75
    go_wp2_with (go_at_call 55; refine (prof_impl _ _ _ _ _ (hR.ext (by repeat (first | exact Ext.refl _ | assumption | refine Ext.alloc ?_ _ | refine Ext.drew ?_ | refine Ext.trans ?_ (by assumption))))).mono ?_; rintro e w1 ⟨rfl, hw1⟩; have q0 := Ext.keep (w' := w1) (by repeat (first | exact Ext.refl _ | assumption | refine Ext.alloc ?_ _ | refine Ext.drew ?_ | refine Ext.trans ?_ (by assumption))) q0; have q1 := Ext.keep (w' := w1) (by repeat (first | exact Ext.refl _ | assumption | refine Ext.alloc ?_ _ | refine Ext.drew ?_ | refine Ext.trans ?_ (by assumption))) q1)
    refine (votersV 125 #[] #[] (fun _ => true) _ sz _ _ vs (hR.ext (by repeat (first | exact Ext.refl _ | assumption | refine Ext.alloc ?_ _ | refine Ext.drew ?_ | refine Ext.trans ?_ (by assumption)))) HS.out Try.call125 (fun x a' c' w' _ _ _ _ => trueF _ _)).mono ?_
    rintro e w2 ⟨rfl, hw2⟩
    go_wp2
    go_ret
    exact ⟨ret_int (by simp [allV]), (by repeat (first | exact Ext.refl _ | assumption | refine Ext.alloc ?_ _ | refine Ext.drew ?_ | refine Ext.trans ?_ (by assumption)))⟩

def tabM (vs : List Vt) (n i m o : Nat) : Int := if o < i then minTo vs (allV vs) o n else if o = i then minTo vs (allV vs) i m else allV vs
set_option maxRecDepth 100000 in
theorem tabM_zero (vs : List Vt) (n o : Nat) : tabM vs n 0 0 o = allV vs := by
  unfold tabM; rw [if_neg (by omega)]; split
  · rename_i h; subst h; rfl
  · rfl
set_option maxRecDepth 100000 in
theorem tabM_at (vs : List Vt) (n i m : Nat) : tabM vs n i m i = minTo vs (allV vs) i m := by
  unfold tabM; rw [if_neg (by omega), if_pos rfl]
set_option maxRecDepth 100000 in
theorem tabM_far (vs : List Vt) (n i m m' : Nat) {o : Nat} (h : o ≠ i) : tabM vs n i m o = tabM vs n i m' o := by
  unfold tabM; rw [if_neg h, if_neg h]
set_option maxRecDepth 100000 in
theorem tabM_done (vs : List Vt) (n i o : Nat) : tabM vs n i n o = tabM vs n (i + 1) 0 o := by
  unfold tabM
  by_cases h1 : o < i
  · rw [if_pos h1, if_pos (by omega)]
  · by_cases h2 : o = i
    · subst h2; rw [if_neg h1, if_pos rfl, if_pos (by omega)]
    · rw [if_neg h1, if_neg h2, if_neg (by omega)]; split
      · rename_i h; subst h; rfl
      · rfl

end Go.Proofs.Ytpicmaggkginkaa
