/- Maximin scores. -/
import Derived.Test.YtbfiaflagadkoaaCond
import Derived.Test.YtbfiaflagadkoaaRep
namespace Go.Proofs.Ytbfiaflagadkoaa
open Go.RowKit

def allV (vs : List Vt) : Int := sumV (fun _ => true) vs
def minTo (vs : List Vt) (V : Int) (i : Nat) : Nat → Int
  | 0 => V
  | m + 1 => if i = m then minTo vs V i m else min (minTo vs V i m) (pairV vs i m)
set_option maxRecDepth 100000 in
theorem min_if (x y : Int) : (if y < x then y else x) = min x y := by split <;> omega
set_option maxRecDepth 100000 in
theorem minTo_bd {sz : Int} {vs : List Vt} (hS : SmallV sz vs) (i : Nat) : ∀ m, 0 ≤ minTo vs (allV vs) i m ∧ minTo vs (allV vs) i m ≤ 24000
  | 0 => by unfold minTo; exact sumV_bd' hS
  | m + 1 => by
    have h1 := minTo_bd hS i m
    have h2 : 0 ≤ pairV vs i m ∧ pairV vs i m ≤ 24000 := sumV_bd' hS
    unfold minTo
    split
    · exact h1
    · omega
def maxiO (sz : Int) (vs : List Vt) : List Int := if profOk sz vs then rowL sz.toNat (fun i => minTo vs (allV vs) i sz.toNat) else []
set_option maxRecDepth 100000 in
theorem maxiO_len (sz : Int) (vs : List Vt) : (maxiO sz vs).length ≤ 5 := by
  unfold maxiO
  cases h0 : profOk sz vs
  · simp
  · obtain ⟨n, rfl, n1, n2⟩ := prof_nat h0
    simp [rowL_len]; omega

set_option maxRecDepth 100000 in
set_option maxHeartbeats 1000000 in
theorem allV_spec (w : World) (sz : Int) (a : Option Addr) (c : Nat) (vs : List Vt) (hR : RdV w a vs) (hS : SmallV sz vs) :
    Calls Try.prog 67 #[.agg #[.int .i64 sz, .slice a vs.length c]] w fun e w' => e = .returned (.int .i64 (allV vs)) ∧ Ext w w' := by
  have HS := hide hS
  have hl := hS.1
  clear hS
  go_enter Try.func67, Try.ntmps67
  go_wp2_with fail
  have hw := Ext.new w (.cells #[.int .i64 sz, .slice a vs.length c] 30)
  generalize w.alloc (.cells #[.int .i64 sz, .slice a vs.length c] 30) = W0 at hw ⊢
  go_loopw [3, 5, 9] (fun s _ i wr => ∃ k : Nat, k ≤ vs.length ∧ i = .int .i64 k ∧ s = .int .i64 (sumV (fun _ => true) (vs.take k)) ∧ Ext W0 wr) (fun _ _ i _ => vs.length - (intOf i).toNat)
  case atStart => exact ⟨0, Nat.zero_le _, rfl, rfl, (by repeat (first | exact Ext.refl _ | assumption | refine Ext.alloc ?_ _ | refine Ext.drew ?_ | refine Ext.trans ?_ (by assumption)))⟩
  case round =>
    obtain ⟨k, hk, rfl, rfl, hwr⟩ := hrel
    obtain ⟨b1, b2⟩ := sumV_bd HS.out k hk (p := fun _ => true)
    by_cases hlt : k < vs.length
    · obtain ⟨v, hx⟩ := at_of_lt hlt
      obtain ⟨b, off, a', c', rfl, c0, c1, hc', hRx⟩ := (hR.ext (hw.trans hwr)).at_ hx
      obtain ⟨x0, x1, x2⟩ := HS.out.2 v (List.mem_of_getElem? hx)
      have HX := hide hx
      clear hx x0
      go_wp2
      exact ⟨⟨k + 1, by omega, by go_num, by rw [sumV_at HX.out]; simp, (by repeat (first | exact Ext.refl _ | assumption | refine Ext.alloc ?_ _ | refine Ext.drew ?_ | refine Ext.trans ?_ (by assumption)))⟩, by simp [intOf]; omega⟩
    · go_wp2
      go_ret
      exact ⟨ret_int (by rw [List.take_of_length_le (by omega)]; rfl), hw.trans hwr⟩

set_option maxRecDepth 100000 in
set_option maxHeartbeats 4000000 in
theorem maxi_spec (w : World) (sz : Int) (a : Option Addr) (c : Nat) (vs : List Vt) (hR : RdV w a vs) :
    Calls Try.prog 16 #[.agg #[.int .i64 sz, .slice a vs.length c]] w fun e w' => ∃ v, e = .returned v ∧ OwnI w' w.heap.size v (maxiO sz vs) ∧ Ext w w' := by
  have q0 := new0 w (.int .i64 sz) [.slice a vs.length c] 30
  have q1 := new1 w (.int .i64 sz) (.slice a vs.length c) [] 30
  cases h0 : profOk sz vs
  · go_enter Try.func16, Try.ntmps16
    go_wp2_with (go_at_call 66; refine (prof_spec _ _ _ _ _ (hR.ext (by repeat (first | exact Ext.refl _ | assumption | refine Ext.alloc ?_ _ | refine Ext.drew ?_ | refine Ext.trans ?_ (by assumption))))).mono ?_; rintro e w1 ⟨rfl, hw1⟩; have q0 := Ext.keep (w' := w1) (by repeat (first | exact Ext.refl _ | assumption | refine Ext.alloc ?_ _ | refine Ext.drew ?_ | refine Ext.trans ?_ (by assumption))) q0; have q1 := Ext.keep (w' := w1) (by repeat (first | exact Ext.refl _ | assumption | refine Ext.alloc ?_ _ | refine Ext.drew ?_ | refine Ext.trans ?_ (by assumption))) q1)
    go_ret
    exact ⟨_, rfl, by simp [maxiO, h0]; exact OwnI.nil _ _, (by repeat (first | exact Ext.refl _ | assumption | refine Ext.alloc ?_ _ | refine Ext.drew ?_ | refine Ext.trans ?_ (by assumption)))⟩
  obtain ⟨n, rfl, n1, n2⟩ := prof_nat h0
  have HS := hide (prof_small h0)
  go_enter Try.func16, Try.ntmps16
  go_wp2_with (go_at_call 66; refine (prof_spec _ _ _ _ _ (hR.ext (by repeat (first | exact Ext.refl _ | assumption | refine Ext.alloc ?_ _ | refine Ext.drew ?_ | refine Ext.trans ?_ (by assumption))))).mono ?_; rintro e w1 ⟨rfl, hw1⟩; have q0 := Ext.keep (w' := w1) (by repeat (first | exact Ext.refl _ | assumption | refine Ext.alloc ?_ _ | refine Ext.drew ?_ | refine Ext.trans ?_ (by assumption))) q0; have q1 := Ext.keep (w' := w1) (by repeat (first | exact Ext.refl _ | assumption | refine Ext.alloc ?_ _ | refine Ext.drew ?_ | refine Ext.trans ?_ (by assumption))) q1)
  have hw : Ext w w1 := (by repeat (first | exact Ext.refl _ | assumption | refine Ext.alloc ?_ _ | refine Ext.drew ?_ | refine Ext.trans ?_ (by assumption)))
  have hO := OwnI.made0 w1
  have hsz := hw.size
  have h20 := Ext.new w1 (.cells #[] 3)
  obtain ⟨W0, hW0⟩ : ∃ W0 : World, W0 = w1.alloc (.cells #[] 3) := ⟨_, rfl⟩
  rw [← hW0] at hO h20 ⊢
  clear hW0
  have hR0 := hR.ext hw
  obtain ⟨wb, hwb⟩ : ∃ wb : World, wb = w1 := ⟨_, rfl⟩
  subst hwb
  obtain ⟨M, hM⟩ : ∃ M : Nat → Int, M = fun i => minTo vs (allV vs) i n := ⟨_, rfl⟩
  have HMM := hide hM
  clear hM
  go_loopw [3, 4, 5, 6] (fun v i _ _ wr => ∃ k : Nat, k ≤ n ∧ i = .int .i64 k ∧ OwnI wr wb.heap.size v (rowL k M) ∧ Ext wb wr) (fun _ i _ _ _ => n - (intOf i).toNat)
  case atStart => exact ⟨0, Nat.zero_le _, rfl, hO, h20⟩
  case round =>
    clear h20 hO
    obtain ⟨i, hi, rfl, hown, hwr⟩ := hrel
    have q0 := hwr.keep q0
    have q1 := hwr.keep q1
    have hul := rowL_len i M
    by_cases hit : i < n
    · go_wp2_with (go_at_call 67; refine (allV_spec _ _ _ _ _ (hR0.ext (by repeat (first | exact Ext.refl _ | assumption | refine Ext.alloc ?_ _ | refine Ext.drew ?_ | refine Ext.trans ?_ (by assumption)))) HS.out).mono ?_; rintro e w1 ⟨rfl, hw1⟩; have q0 := Ext.keep (w' := w1) (by repeat (first | exact Ext.refl _ | assumption | refine Ext.alloc ?_ _ | refine Ext.drew ?_ | refine Ext.trans ?_ (by assumption))) q0; have q1 := Ext.keep (w' := w1) (by repeat (first | exact Ext.refl _ | assumption | refine Ext.alloc ?_ _ | refine Ext.drew ?_ | refine Ext.trans ?_ (by assumption))) q1)
      have hown := hown.ext hw1
      have hwr := hwr.trans hw1
      clear hw1
      obtain ⟨wo, hwo⟩ : ∃ wo : World, wo = w1 := ⟨_, rfl⟩
      subst hwo
      go_loopw [5, 6] (fun b m wr => ∃ k : Nat, k ≤ n ∧ m = .int .i64 k ∧ b = .int .i64 (minTo vs (allV vs) i k) ∧ Ext wo wr) (fun _ m _ => n - (intOf m).toNat)
      case atStart => exact ⟨0, Nat.zero_le _, rfl, rfl, Ext.refl _⟩
      case round =>
        obtain ⟨k, hk, rfl, rfl, hwr'⟩ := hrel
        have q0 := hwr'.keep q0
        have q1 := hwr'.keep q1
        by_cases hlt : k < n
        · by_cases e : i = k
          · have e' : (i : Int) = (k : Int) := by omega
            go_wp2
            exact ⟨⟨k + 1, by omega, by go_num, by rw [minTo, if_pos e], (by repeat (first | exact Ext.refl _ | assumption | refine Ext.alloc ?_ _ | refine Ext.drew ?_ | refine Ext.trans ?_ (by assumption)))⟩, by simp [intOf]; omega⟩
          · have e' : ¬ (i : Int) = (k : Int) := by omega
            go_wp2_with (go_at_call 68; refine (pairI_spec _ _ _ _ _ _ _ (hR0.ext (by repeat (first | exact Ext.refl _ | assumption | refine Ext.alloc ?_ _ | refine Ext.drew ?_ | refine Ext.trans ?_ (by assumption)))) HS.out).mono ?_; rintro e w1 ⟨rfl, hw1⟩; have q0 := Ext.keep (w' := w1) (by repeat (first | exact Ext.refl _ | assumption | refine Ext.alloc ?_ _ | refine Ext.drew ?_ | refine Ext.trans ?_ (by assumption))) q0; have q1 := Ext.keep (w' := w1) (by repeat (first | exact Ext.refl _ | assumption | refine Ext.alloc ?_ _ | refine Ext.drew ?_ | refine Ext.trans ?_ (by assumption))) q1)
            exact ⟨⟨k + 1, by omega, by go_num, by rw [min_if, minTo, if_neg e], (by repeat (first | exact Ext.refl _ | assumption | refine Ext.alloc ?_ _ | refine Ext.drew ?_ | refine Ext.trans ?_ (by assumption)))⟩, by simp [intOf]; omega⟩
        · have hkn : k = n := by omega
          have hown := hown.ext hwr'
          have HT : minTo vs (allV vs) i k = M i := by rw [HMM.out, hkn]
          rw [HT]
          go_wp2_with (at_builtin; refine wpList_appI wb _ rfl _ _ rfl _ (rowL i M) _ rfl (hown.ext (by repeat (first | exact Ext.refl _ | assumption | refine Ext.alloc ?_ _ | refine Ext.drew ?_ | refine Ext.trans ?_ (by assumption)))) (by repeat (first | exact Ext.refl _ | assumption | refine Ext.alloc ?_ _ | refine Ext.drew ?_ | refine Ext.trans ?_ (by assumption))) rfl (by omega) ?_; intro v' w3 hown3 hw3)
          exact ⟨⟨i + 1, by omega, by go_num, by rw [rowL_succ]; exact hown3, (by repeat (first | exact Ext.refl _ | assumption | refine Ext.alloc ?_ _ | refine Ext.drew ?_ | refine Ext.trans ?_ (by assumption)))⟩, by simp [intOf]; omega⟩
    · have hin : i = n := by omega
      go_wp2
      go_ret
      refine ⟨_, rfl, ?_, hw.trans hwr⟩
      have he : maxiO n vs = rowL i M := by
        rw [HMM.out]
        simp [maxiO, h0, hin]
      rw [he]
      exact hown.base hsz

set_option maxRecDepth 100000 in
set_option maxHeartbeats 1000000 in
theorem trueF (w : World) (a : Value) : Calls Try.prog 81 #[a] w fun e w' => e = .returned (.bool true) ∧ Ext w w' := by
  go_enter Try.func81, Try.ntmps81
  go_wp2
  go_ret
  exact ⟨rfl, Ext.refl _⟩
set_option maxRecDepth 100000 in
set_option maxHeartbeats 1000000 in
theorem count_impl (w : World) (sz : Int) (a : Option Addr) (c : Nat) (vs : List Vt) (hR : RdV w a vs) :
    Calls Try.prog 32 #[.agg #[.int .i64 sz, .slice a vs.length c]] w fun e w' => e = .returned (.int .i64 (if profOk sz vs then allV vs else -1)) ∧ Ext w w' := by
  have q0 := new0 w (.int .i64 sz) [.slice a vs.length c] 30
  have q1 := new1 w (.int .i64 sz) (.slice a vs.length c) [] 30
  cases h0 : profOk sz vs
  · go_enter Try.func32, Try.ntmps32
    go_wp2_with (go_at_call 70; refine (prof_impl _ _ _ _ _ (hR.ext (by repeat (first | exact Ext.refl _ | assumption | refine Ext.alloc ?_ _ | refine Ext.drew ?_ | refine Ext.trans ?_ (by assumption))))).mono ?_; rintro e w1 ⟨rfl, hw1⟩; have q0 := Ext.keep (w' := w1) (by repeat (first | exact Ext.refl _ | assumption | refine Ext.alloc ?_ _ | refine Ext.drew ?_ | refine Ext.trans ?_ (by assumption))) q0; have q1 := Ext.keep (w' := w1) (by repeat (first | exact Ext.refl _ | assumption | refine Ext.alloc ?_ _ | refine Ext.drew ?_ | refine Ext.trans ?_ (by assumption))) q1)
    go_ret
    exact ⟨ret_int (by simp), (by repeat (first | exact Ext.refl _ | assumption | refine Ext.alloc ?_ _ | refine Ext.drew ?_ | refine Ext.trans ?_ (by assumption)))⟩
  · have HS := hide (prof_small h0)
    go_enter Try.func32, Try.ntmps32
    go_wp2_with (go_at_call 70; refine (prof_impl _ _ _ _ _ (hR.ext (by repeat (first | exact Ext.refl _ | assumption | refine Ext.alloc ?_ _ | refine Ext.drew ?_ | refine Ext.trans ?_ (by assumption))))).mono ?_; rintro e w1 ⟨rfl, hw1⟩; have q0 := Ext.keep (w' := w1) (by repeat (first | exact Ext.refl _ | assumption | refine Ext.alloc ?_ _ | refine Ext.drew ?_ | refine Ext.trans ?_ (by assumption))) q0; have q1 := Ext.keep (w' := w1) (by repeat (first | exact Ext.refl _ | assumption | refine Ext.alloc ?_ _ | refine Ext.drew ?_ | refine Ext.trans ?_ (by assumption))) q1)
    refine (votersV 81 #[] #[] (fun _ => true) _ sz _ _ vs (hR.ext (by repeat (first | exact Ext.refl _ | assumption | refine Ext.alloc ?_ _ | refine Ext.drew ?_ | refine Ext.trans ?_ (by assumption)))) HS.out Try.call81 (fun x a' c' w' _ _ _ _ => trueF _ _)).mono ?_
    rintro e w2 ⟨rfl, hw2⟩
    go_wp2
    go_ret
    exact ⟨ret_int (by simp [allV]), (by repeat (first | exact Ext.refl _ | assumption | refine Ext.alloc ?_ _ | refine Ext.drew ?_ | refine Ext.trans ?_ (by assumption)))⟩

def tabM (vs : List Vt) (n i m o : Nat) : Int := if o < i then minTo vs (allV vs) o n else if o = i then minTo vs (allV vs) i m else allV vs
set_option maxRecDepth 100000 in
theorem tabM_zero (vs : List Vt) (n o : Nat) : tabM vs n 0 0 o = allV vs := by
  unfold tabM; rw [if_neg (by omega)]; split
  · rename_i h; subst h; rfl
  · rfl
set_option maxRecDepth 100000 in
theorem tabM_at (vs : List Vt) (n i m : Nat) : tabM vs n i m i = minTo vs (allV vs) i m := by
  unfold tabM; rw [if_neg (by omega), if_pos rfl]
set_option maxRecDepth 100000 in
theorem tabM_far (vs : List Vt) (n i m m' : Nat) {o : Nat} (h : o ≠ i) : tabM vs n i m o = tabM vs n i m' o := by
  unfold tabM; rw [if_neg h, if_neg h]
set_option maxRecDepth 100000 in
theorem tabM_done (vs : List Vt) (n i o : Nat) : tabM vs n i n o = tabM vs n (i + 1) 0 o := by
  unfold tabM
  by_cases h1 : o < i
  · rw [if_pos h1, if_pos (by omega)]
  · by_cases h2 : o = i
    · subst h2; rw [if_neg h1, if_pos rfl, if_pos (by omega)]
    · rw [if_neg h1, if_neg h2, if_neg (by omega)]; split
      · rename_i h; subst h; rfl
      · rfl

set_option maxRecDepth 100000 in
set_option maxHeartbeats 4000000 in
theorem maxi_impl (w : World) (sz : Int) (a : Option Addr) (c : Nat) (vs : List Vt) (hR : RdV w a vs) :
    Calls Try.prog 18 #[.agg #[.int .i64 sz, .slice a vs.length c]] w fun e w' => ∃ v, e = .returned v ∧ WrI w' w.heap.size v (maxiO sz vs) ∧ Ext w w' := by
  have q0 := new0 w (.int .i64 sz) [.slice a vs.length c] 30
  have q1 := new1 w (.int .i64 sz) (.slice a vs.length c) [] 30
  cases h0 : profOk sz vs
  · go_enter Try.func18, Try.ntmps18
    go_wp2_with (go_at_call 70; refine (prof_impl _ _ _ _ _ (hR.ext (by repeat (first | exact Ext.refl _ | assumption | refine Ext.alloc ?_ _ | refine Ext.drew ?_ | refine Ext.trans ?_ (by assumption))))).mono ?_; rintro e w1 ⟨rfl, hw1⟩; have q0 := Ext.keep (w' := w1) (by repeat (first | exact Ext.refl _ | assumption | refine Ext.alloc ?_ _ | refine Ext.drew ?_ | refine Ext.trans ?_ (by assumption))) q0; have q1 := Ext.keep (w' := w1) (by repeat (first | exact Ext.refl _ | assumption | refine Ext.alloc ?_ _ | refine Ext.drew ?_ | refine Ext.trans ?_ (by assumption))) q1)
    go_ret
    exact ⟨_, rfl, by simp [maxiO, h0]; exact WrI.nil _ _ _ _, (by repeat (first | exact Ext.refl _ | assumption | refine Ext.alloc ?_ _ | refine Ext.drew ?_ | refine Ext.trans ?_ (by assumption)))⟩
  obtain ⟨n, rfl, n1, n2⟩ := prof_nat h0
  have HS := hide (prof_small h0)
  go_enter Try.func18, Try.ntmps18
  go_wp2_with (go_at_call 70; refine (prof_impl _ _ _ _ _ (hR.ext (by repeat (first | exact Ext.refl _ | assumption | refine Ext.alloc ?_ _ | refine Ext.drew ?_ | refine Ext.trans ?_ (by assumption))))).mono ?_; rintro e w1 ⟨rfl, hw1⟩; have q0 := Ext.keep (w' := w1) (by repeat (first | exact Ext.refl _ | assumption | refine Ext.alloc ?_ _ | refine Ext.drew ?_ | refine Ext.trans ?_ (by assumption))) q0; have q1 := Ext.keep (w' := w1) (by repeat (first | exact Ext.refl _ | assumption | refine Ext.alloc ?_ _ | refine Ext.drew ?_ | refine Ext.trans ?_ (by assumption))) q1)
  refine wp_region_O [0, 1, 3, 4, 2, 5, 6] (by kernel_rfl) rfl (by kernel_rfl) ?_
  repeat' (refine wpO_stepQ rfl (fun K hK => ?_)
           go_simp
           try (rw [if_neg (by intro h; simp [undef] at h)])
           try split
           all_goals
             first
             | (refine hK _ ?_
                clear hK K)
             | (apply Exists.intro
                refine ⟨fun wq hwq => ?_, hK _ ?_⟩
                · have hcq := hwq.cellS
                  go_simp
                  first
                  | exact ⟨Ext.refl _, rfl⟩
                  | exact ⟨Ext.refl _, count_impl _ _ _ _ _ (hR.ext (by repeat (first | exact Ext.refl _ | assumption | refine Ext.alloc ?_ _ | refine Ext.drew ?_ | refine Ext.trans ?_ (by assumption))))⟩
                clear hK K))
  refine wpO_stepS rfl (by kernel_rfl) (fun K hK wq hwq => ?_)
  go_simp
  refine ⟨(by repeat (first | exact Ext.refl _ | assumption | refine Ext.alloc ?_ _ | refine Ext.drew ?_ | refine Ext.trans ?_ (by assumption))), hK _ _ ?_⟩
  clear hK K
  refine wpO_stepS rfl (by kernel_rfl) (fun K hK wq hwq => ?_)
  go_simp
  refine (rep_impl _ _ _ _ _ n n1 n2 (Ext.keep hwq (new0 _ _ _ _))).mono ?_
  rintro e w3 ⟨g, rfl, hg, hB, hw3⟩
  refine ⟨hw3, hK _ _ ?_⟩
  clear hK K
  repeat' (refine wpO_stepQ rfl (fun K hK => ?_)
           go_simp
           try (rw [if_neg (by intro h; simp [undef] at h)])
           try split
           all_goals
             first
             | (refine hK _ ?_
                clear hK K)
             | (apply Exists.intro
                refine ⟨fun wq hwq => ?_, hK _ ?_⟩
                · have hcq := hwq.cellS
                  go_simp
                  first
                  | exact ⟨Ext.refl _, rfl⟩
                clear hK K))
  refine wpO_nil (fun wz hwz => ?_)
  have hw : Ext w w1 := (by repeat (first | exact Ext.refl _ | assumption | refine Ext.alloc ?_ _ | refine Ext.drew ?_ | refine Ext.trans ?_ (by assumption)))
  have hwb : Ext w1 wz := (by repeat (first | exact Ext.refl _ | assumption | refine Ext.alloc ?_ _ | refine Ext.drew ?_ | refine Ext.trans ?_ (by assumption)))
  have hgw : w1.heap.size ≤ g := Nat.le_trans (Ext.size (show Ext w1 wq from (by repeat (first | exact Ext.refl _ | assumption | refine Ext.alloc ?_ _ | refine Ext.drew ?_ | refine Ext.trans ?_ (by assumption))))) hg
  have hB := (hB.ext hwz).congr (f' := fun o => .int .i64 (tabM vs n 0 0 o)) (fun o ho => by rw [tabM_zero])
  have hR0 := hR.ext hw
  clear hwz hw3 hwq hg
  obtain ⟨wb, hwbe⟩ : ∃ wb : World, wb = w1 := ⟨_, rfl⟩
  subst hwbe
  go_wp2
  go_loopw [4, 5, 17, 21, 22] (fun _ _ i _ _ wr => ∃ k : Nat, k ≤ n ∧ i = .int .i64 k ∧ BlkF wr g n (fun o => .int .i64 (tabM vs n k 0 o)) ∧ Ext wb wr) (fun _ _ i _ _ _ => n - (intOf i).toNat)
  case atStart => exact ⟨0, Nat.zero_le _, rfl, hB, hwb⟩
  case round =>
    clear hB hwb
    obtain ⟨i, hi, rfl, hB, hwr⟩ := hrel
    have r0 := hwr.keep q0
    by_cases hit : i < n
    · go_wp2
      go_loopw [5, 22] (fun _ m wr => ∃ k : Nat, k ≤ n ∧ m = .int .i64 k ∧ BlkF wr g n (fun o => .int .i64 (tabM vs n i k o)) ∧ Ext wb wr) (fun _ m _ => n - (intOf m).toNat)
      case atStart => exact ⟨0, Nat.zero_le _, rfl, hB, hwr⟩
      case round =>
        clear hB hwr r0
        obtain ⟨m, hm, rfl, hB, hwr⟩ := hrel
        have r0 := hwr.keep q0
        have r1 := hwr.keep q1
        by_cases hlt : m < n
        · by_cases e : i = m
          · have e' : (i : Int) = (m : Int) := by omega
            have HB := hide hB
            clear hB
            go_wp2
            refine ⟨⟨m + 1, by omega, by go_num, HB.out.congr (fun o _ => ?_), (by repeat (first | exact Ext.refl _ | assumption | refine Ext.alloc ?_ _ | refine Ext.drew ?_ | refine Ext.trans ?_ (by assumption)))⟩, by simp [intOf]; omega⟩
            by_cases e2 : o = i
            · subst e2; rw [tabM_at, tabM_at, minTo, if_pos e]
            · rw [tabM_far vs n i m (m + 1) e2]
          · have e' : ¬ (i : Int) = (m : Int) := by omega
            have d0 := hB.cell i hit
            rw [tabM_at] at d0
            have z0 := hB.fr i
            have HB := hide hB
            clear hB
            go_wp2
            refine wp_region_X (by kernel_rfl) (by kernel_rfl) ?_
            repeat' (refine wpX_stepQ (fun K hK => ?_)
                     go_simp
                     try (rw [if_neg (by intro h; simp [undef] at h)])
                     try split
                     all_goals
                       first
                       | (refine hK _ ?_
                          clear hK K)
                       | (apply Exists.intro
                          refine ⟨fun wq hwq => ?_, hK _ ?_⟩
                          · have hcq := hwq.cellS
                            go_simp
                            first
                            | exact ⟨Ext.refl _, rfl⟩
                            | exact ⟨Ext.refl _, pairI_impl _ _ _ _ _ _ _ (hR0.ext (by repeat (first | exact Ext.refl _ | assumption | refine Ext.alloc ?_ _ | refine Ext.drew ?_ | refine Ext.trans ?_ (by assumption)))) HS.out⟩
                          clear hK K))
            all_goals
              refine wpX_stepL rfl (by kernel_rfl) (by kernel_rfl) (by kernel_rfl) (fun K hK wz hwz => ?_)
              have hcz := hwz.cellS
              have hfz := hwz.frozenS
              go_simp
              refine hK _ _ ?_
              clear hK K
              go_wp2
              refine ⟨⟨m + 1, by omega, by go_num, ((HB.out.ext hwz).set i hit _).congr (fun o _ => ?_), Ext.setCell (Ext.trans hwr hwz) (by omega) _⟩, by simp [intOf]; omega⟩
              by_cases e2 : o = i
              · subst e2; rw [if_pos rfl, tabM_at, minTo, if_neg e, ← min_if]; first | rw [if_pos (by assumption)] | rw [if_neg (by omega)]
              · rw [if_neg e2, tabM_far vs n i m (m + 1) e2]
        · have hmn : m = n := by omega
          go_wp2
          exact ⟨⟨i + 1, by omega, by go_num, hB.congr (fun o _ => by rw [hmn, tabM_done]), hwr⟩, by simp [intOf]; omega⟩
    · have hin : i = n := by omega
      go_wp2
      go_ret
      have he : maxiO n vs = rowL n (fun i => minTo vs (allV vs) i n) := by simp [maxiO, h0]
      rw [he]
      refine ⟨_, rfl, hB.wrI (rowL_len _ _) (fun j x hx => ?_) (Nat.le_trans hw.size hgw) (Nat.le_refl _), hw.trans hwr⟩
      obtain ⟨hj, rfl⟩ := rowL_val hx
      simp only [tabM, hin, if_pos hj]

end Go.Proofs.Ytbfiaflagadkoaa
