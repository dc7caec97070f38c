/- The level and the winner of Bucklin's rule. -/
import Derived.Test.YtbfiaflagadkoaaWth
import Derived.Test.YtbfiaflagadkoaaGr
import Derived.Test.YtbfiaflagadkoaaCount
namespace Go.Proofs.Ytbfiaflagadkoaa
open Go.RowKit

def bukA (vs : List Vt) (k a : Nat) : Bool := decide (allV vs < 2 * wthV vs k a)
def bukN (n : Nat) (vs : List Vt) (k : Nat) : Bool := allN n (fun a => !bukA vs k a)
def levV (n : Nat) (vs : List Vt) : Nat := match (List.range n).find? (fun j => !bukN n vs (j + 1)) with
  | some j => j + 1
  | none => 0
set_option maxRecDepth 100000 in
theorem levV_at {n : Nat} {vs : List Vt} {j : Nat} (hj : j < n) (h : ∀ i, i < j → bukN n vs (i + 1) = true) (hh : bukN n vs (j + 1) = false) : levV n vs = j + 1 := by
  have e : (List.range n).find? (fun j => !bukN n vs (j + 1)) = some j := by
    rw [List.find?_range_eq_some]
    exact ⟨by simp [hh], List.mem_range.2 hj, fun i hi => by simp [h i hi]⟩
  unfold levV; rw [e]
set_option maxRecDepth 100000 in
theorem levV_none {n : Nat} {vs : List Vt} (h : ∀ i, i < n → bukN n vs (i + 1) = true) : levV n vs = 0 := by
  have e : (List.range n).find? (fun j => !bukN n vs (j + 1)) = none := by
    rw [List.find?_range_eq_none]
    exact fun i hi => by simp [h i hi]
  unfold levV; rw [e]
set_option maxRecDepth 100000 in
theorem levV_le (n : Nat) (vs : List Vt) : levV n vs ≤ n := by
  unfold levV
  cases e : (List.range n).find? (fun j => !bukN n vs (j + 1)) with
  | none => simp
  | some j =>
    have := List.mem_of_find?_eq_some e
    have := List.mem_range.1 this
    simp; omega
def levO (sz : Int) (vs : List Vt) : Int := if profOk sz vs then (levV sz.toNat vs : Int) else -1
def bukO (sz : Int) (vs : List Vt) : Int := if profOk sz vs then (bestL (rowL sz.toNat (wthV vs (levV sz.toNat vs)))).headD 0 else -1

set_option maxRecDepth 100000 in
theorem wth_full {n : Nat} {vs : List Vt} (hS : SmallV n vs) {a : Nat} (ha : a < n) : wthV vs n a = allV vs := by
  unfold wthV allV
  exact sumV_congr fun x hx => by
    obtain ⟨p, hp, hpl, _⟩ := place_at (hS.2 x hx).1 ha
    simp only [wthP, hpl, decide_eq_true_eq]; omega
set_option maxRecDepth 100000 in
theorem allV_pos {n : Int} : ∀ {vs : List Vt}, SmallV n vs → vs ≠ [] → 1 ≤ allV vs
  | [], _, h => absurd rfl h
  | x :: vs, hS, _ => by
    have h1 := (hS.2 x (by simp)).2.1
    have h2 : 0 ≤ allV vs ∧ _ := sumV_bd' hS.tail (p := fun _ => true)
    have h3 : allV (x :: vs) = x.2 + allV vs := by unfold allV; rw [sumV_cons]; simp
    omega
set_option maxRecDepth 100000 in
theorem buk_end {n : Nat} {vs : List Vt} (hS : SmallV n vs) (n1 : 1 ≤ n) (hne : vs ≠ []) : bukN n vs n = false := by
  refine allN_f (k := 0) n1 ?_
  have h1 := wth_full hS (a := 0) n1
  have h2 := allV_pos hS hne
  simp only [bukA, h1, Bool.not_eq_false', decide_eq_true_eq]; omega

set_option maxRecDepth 100000 in
set_option maxHeartbeats 2000000 in
theorem lev_spec (w : World) (n : Nat) (a : Option Addr) (c : Nat) (vs : List Vt) (hR : RdV w a vs) (h0 : profOk n vs = true) :
    Calls Try.prog 96 #[.agg #[.int .i64 n, .slice a vs.length c]] w fun e w' => e = .returned (.int .i64 (levV n vs : Int)) ∧ Ext w w' := by
  have q0 := new0 w (.int .i64 n) [.slice a vs.length c] 30
  have q1 := new1 w (.int .i64 n) (.slice a vs.length c) [] 30
  have n2 := (prof_size h0).2
  have HP := hide h0
  have HS := hide (prof_small h0)
  clear h0
  go_enter Try.func96, Try.ntmps96
  go_wp2_with fail
  have h10 := Ext.new w (.cells #[.int .i64 n, .slice a vs.length c] 30)
  generalize w.alloc (.cells #[.int .i64 n, .slice a vs.length c] 30) = W0 at q0 q1 h10 ⊢
  have hR0 := hR.ext h10
  go_loopw [3, 5, 14, 15, 16] (fun i _ _ _ _ wr => ∃ k : Nat, k ≤ n ∧ i = .int .i64 ((k + 1 : Nat) : Int) ∧ Hid (∀ j, j < k → bukN n vs (j + 1) = true) ∧ Ext W0 wr) (fun i _ _ _ _ _ => n + 1 - (intOf i).toNat)
  case atStart => exact ⟨0, Nat.zero_le _, rfl, fun j hj => absurd hj (by omega), Ext.refl _⟩
  case round =>
    obtain ⟨k, hk, rfl, hall, hwr⟩ := hrel
    have r0 := hwr.keep q0
    have r1 := hwr.keep q1
    obtain ⟨s, hs⟩ : ∃ s : Nat, s = k + 1 := ⟨_, rfl⟩
    rw [← hs]
    have HK := hide hs
    have hs1 : k + 1 ≤ s := by omega
    have hs2 : s ≤ k + 1 := by omega
    clear hs
    by_cases hlt : k < n
    · go_wp2_with fail
      refine (wth_spec _ n a c vs s ((hR0.ext hwr).ext (by repeat (first | exact Ext.refl _ | assumption | refine Ext.alloc ?_ _ | refine Ext.drew ?_ | refine Ext.trans ?_ (by assumption)))) HP.out (by omega)).mono ?_
      rintro e w2 ⟨v, rfl, hv, hw2⟩
      have r0 := hw2.keep r0
      have r1 := hw2.keep r1
      obtain ⟨av, cv, rfl, _, _, hRv, _⟩ := hv.val
      rw [rowL_len]
      have hwr2 := hwr.trans hw2
      clear hv
      have hd : decide (s ≤ n) = true := by simp; omega
      have hd2 : ((s : Int) ≤ (n : Int)) := by omega
      go_wp2_with fail
      obtain ⟨wo, hwo⟩ : ∃ wo : World, wo = w2 := ⟨_, rfl⟩
      subst hwo
      go_loopw [5, 16] (fun _ i wr => ∃ j : Nat, j ≤ n ∧ i = .int .i64 j ∧ Hid (∀ x, x < j → bukA vs s x = false) ∧ Ext wo wr) (fun _ i _ => n - (intOf i).toNat)
      case atStart => exact ⟨0, Nat.zero_le _, rfl, fun j hj => absurd hj (by omega), Ext.refl _⟩
      case round =>
        obtain ⟨i, hi, rfl, hno, hwr3⟩ := hrel
        have r0 := hwr3.keep r0
        have r1 := hwr3.keep r1
        have hRr := hR0.ext (hwr2.trans hwr3)
        by_cases hit : i < n
        · obtain ⟨b2, off2, rfl, e0⟩ := (hRv.ext hwr3).at_ (rowL_at (f := wthV vs s) hit)
          have b1 := wthV_bd HS.out s i
          cases hq : bukA vs s i
          · have t1 : ¬ (allV vs < 2 * wthV vs s i) := by simpa [bukA] using hq
            go_wp2_with (go_at_call 67; refine (allV_spec _ _ _ _ _ (hRr.ext (by repeat (first | exact Ext.refl _ | assumption | refine Ext.alloc ?_ _ | refine Ext.drew ?_ | refine Ext.trans ?_ (by assumption)))) HS.out).mono ?_; rintro e w1 ⟨rfl, hw1⟩)
            exact ⟨⟨i + 1, by omega, by go_num, fun x hx => by
              rcases Nat.lt_succ_iff_lt_or_eq.1 hx with h | rfl
              · exact hno.out x h
              · exact hq, (by repeat (first | exact Ext.refl _ | assumption | refine Ext.alloc ?_ _ | refine Ext.drew ?_ | refine Ext.trans ?_ (by assumption)))⟩, by simp [intOf]; omega⟩
          · have t1 : allV vs < 2 * wthV vs s i := by simpa [bukA] using hq
            go_wp2_with (go_at_call 67; refine (allV_spec _ _ _ _ _ (hRr.ext (by repeat (first | exact Ext.refl _ | assumption | refine Ext.alloc ?_ _ | refine Ext.drew ?_ | refine Ext.trans ?_ (by assumption)))) HS.out).mono ?_; rintro e w1 ⟨rfl, hw1⟩)
            go_ret
            refine ⟨ret_int ?_, h10.trans (hwr2.trans (by repeat (first | exact Ext.refl _ | assumption | refine Ext.alloc ?_ _ | refine Ext.drew ?_ | refine Ext.trans ?_ (by assumption))))⟩
            have h1 : bukN n vs (k + 1) = false := allN_f hit (by rw [← HK.out, hq]; rfl)
            rw [levV_at (by omega) hall.out h1, HK.out]
        · go_wp2
          refine ⟨⟨s, by omega, by go_num, fun x hx => ?_, hwr2.trans hwr3⟩, by simp [intOf]; omega⟩
          rcases Nat.lt_succ_iff_lt_or_eq.1 (show x < k + 1 by omega) with h | h
          · exact hall.out x h
          · rw [h, ← HK.out]
            exact allN_t (fun j hj => by rw [hno.out j (by omega)]; rfl)
    · have hkn : k = n := by omega
      go_wp2
      go_ret
      exact ⟨ret_int (by rw [levV_none (fun i hi => hall.out i (by omega))]; rfl), h10.trans hwr⟩

set_option maxRecDepth 100000 in
set_option maxHeartbeats 1000000 in
theorem levO_spec (w : World) (sz : Int) (a : Option Addr) (c : Nat) (vs : List Vt) (hR : RdV w a vs) :
    Calls Try.prog 43 #[.agg #[.int .i64 sz, .slice a vs.length c]] w fun e w' => e = .returned (.int .i64 (levO sz vs)) ∧ Ext w w' := by
  have q0 := new0 w (.int .i64 sz) [.slice a vs.length c] 30
  have q1 := new1 w (.int .i64 sz) (.slice a vs.length c) [] 30
  cases h0 : profOk sz vs
  · go_enter Try.func43, Try.ntmps43
    go_wp2_with (go_at_call 66; refine (prof_spec _ _ _ _ _ (hR.ext (by repeat (first | exact Ext.refl _ | assumption | refine Ext.alloc ?_ _ | refine Ext.drew ?_ | refine Ext.trans ?_ (by assumption))))).mono ?_; rintro e w1 ⟨rfl, hw1⟩; have q0 := Ext.keep (w' := w1) (by repeat (first | exact Ext.refl _ | assumption | refine Ext.alloc ?_ _ | refine Ext.drew ?_ | refine Ext.trans ?_ (by assumption))) q0; have q1 := Ext.keep (w' := w1) (by repeat (first | exact Ext.refl _ | assumption | refine Ext.alloc ?_ _ | refine Ext.drew ?_ | refine Ext.trans ?_ (by assumption))) q1)
    go_ret
    exact ⟨ret_int (by simp [levO, h0]), (by repeat (first | exact Ext.refl _ | assumption | refine Ext.alloc ?_ _ | refine Ext.drew ?_ | refine Ext.trans ?_ (by assumption)))⟩
  obtain ⟨n, rfl, n1, n2⟩ := prof_nat h0
  have HP := hide h0
  go_enter Try.func43, Try.ntmps43
  go_wp2_with (first | (go_at_call 66; refine (prof_spec _ _ _ _ _ (hR.ext (by repeat (first | exact Ext.refl _ | assumption | refine Ext.alloc ?_ _ | refine Ext.drew ?_ | refine Ext.trans ?_ (by assumption))))).mono ?_; rintro e w1 ⟨rfl, hw1⟩; have q0 := Ext.keep (w' := w1) (by repeat (first | exact Ext.refl _ | assumption | refine Ext.alloc ?_ _ | refine Ext.drew ?_ | refine Ext.trans ?_ (by assumption))) q0; have q1 := Ext.keep (w' := w1) (by repeat (first | exact Ext.refl _ | assumption | refine Ext.alloc ?_ _ | refine Ext.drew ?_ | refine Ext.trans ?_ (by assumption))) q1) | (go_at_call 96; refine (lev_spec _ _ _ _ _ (hR.ext (by repeat (first | exact Ext.refl _ | assumption | refine Ext.alloc ?_ _ | refine Ext.drew ?_ | refine Ext.trans ?_ (by assumption)))) HP.out).mono ?_; rintro e w1 ⟨rfl, hw1⟩))
  go_ret
  exact ⟨ret_int (by simp [levO, h0]), (by repeat (first | exact Ext.refl _ | assumption | refine Ext.alloc ?_ _ | refine Ext.drew ?_ | refine Ext.trans ?_ (by assumption)))⟩

set_option maxRecDepth 100000 in
theorem max_buk {n : Nat} {vs : List Vt} (n1 : 1 ≤ n) (k : Nat) : (2 * maxL (rowL n (wthV vs k)) ≤ allV vs) ↔ bukN n vs k = true := by
  have hne : rowL n (wthV vs k) ≠ [] := fun e => by have := rowL_len n (wthV vs k); rw [e] at this; simp at this; omega
  constructor
  · intro h
    refine allN_t fun j hj => ?_
    have h1 := maxL_ge (List.mem_of_getElem? (rowL_at (f := wthV vs k) hj))
    simp only [bukA, Bool.not_eq_true', decide_eq_false_iff_not]; omega
  · intro h
    obtain ⟨j, hj⟩ := List.mem_iff_getElem?.1 (maxL_mem hne)
    obtain ⟨hjn, e⟩ := rowL_val hj
    have h1 := allN_iff.1 h j hjn
    simp only [bukA, Bool.not_eq_true', decide_eq_false_iff_not] at h1
    rw [e]; omega

set_option maxRecDepth 100000 in
set_option maxHeartbeats 2000000 in
theorem levO_impl (w : World) (sz : Int) (a : Option Addr) (c : Nat) (vs : List Vt) (hR : RdV w a vs) :
    Calls Try.prog 44 #[.agg #[.int .i64 sz, .slice a vs.length c]] w fun e w' => e = .returned (.int .i64 (levO sz vs)) ∧ Ext w w' := by
  have q0 := new0 w (.int .i64 sz) [.slice a vs.length c] 30
  have q1 := new1 w (.int .i64 sz) (.slice a vs.length c) [] 30
  cases h0 : profOk sz vs
  · go_enter Try.func44, Try.ntmps44
    go_wp2_with (go_at_call 70; refine (prof_impl _ _ _ _ _ (hR.ext (by repeat (first | exact Ext.refl _ | assumption | refine Ext.alloc ?_ _ | refine Ext.drew ?_ | refine Ext.trans ?_ (by assumption))))).mono ?_; rintro e w1 ⟨rfl, hw1⟩; have q0 := Ext.keep (w' := w1) (by repeat (first | exact Ext.refl _ | assumption | refine Ext.alloc ?_ _ | refine Ext.drew ?_ | refine Ext.trans ?_ (by assumption))) q0; have q1 := Ext.keep (w' := w1) (by repeat (first | exact Ext.refl _ | assumption | refine Ext.alloc ?_ _ | refine Ext.drew ?_ | refine Ext.trans ?_ (by assumption))) q1)
    go_ret
    exact ⟨ret_int (by simp [levO, h0]), (by repeat (first | exact Ext.refl _ | assumption | refine Ext.alloc ?_ _ | refine Ext.drew ?_ | refine Ext.trans ?_ (by assumption)))⟩
  obtain ⟨n, rfl, n1, n2⟩ := prof_nat h0
  have HP := hide h0
  have HS := hide (prof_small h0)
  have hl24 := (prof_small h0).1
  by_cases hz : vs = []
  · have hz2 : ((vs.length : Int) == 0) = true := by rw [hz]; rfl
    have HZ := hide hz
    clear hz
    go_enter Try.func44, Try.ntmps44
    go_wp2_with (go_at_call 70; refine (prof_impl _ _ _ _ _ (hR.ext (by repeat (first | exact Ext.refl _ | assumption | refine Ext.alloc ?_ _ | refine Ext.drew ?_ | refine Ext.trans ?_ (by assumption))))).mono ?_; rintro e w1 ⟨rfl, hw1⟩; have q0 := Ext.keep (w' := w1) (by repeat (first | exact Ext.refl _ | assumption | refine Ext.alloc ?_ _ | refine Ext.drew ?_ | refine Ext.trans ?_ (by assumption))) q0; have q1 := Ext.keep (w' := w1) (by repeat (first | exact Ext.refl _ | assumption | refine Ext.alloc ?_ _ | refine Ext.drew ?_ | refine Ext.trans ?_ (by assumption))) q1)
    go_ret
    refine ⟨ret_int ?_, (by repeat (first | exact Ext.refl _ | assumption | refine Ext.alloc ?_ _ | refine Ext.drew ?_ | refine Ext.trans ?_ (by assumption)))⟩
    simp only [levO, h0, if_true, Int.toNat_natCast]
    rw [levV_none (fun i hi => allN_t fun j hj => by rw [HZ.out]; simp [bukA, allV, wthV, sumV])]
    rfl
  · have hpos : 1 ≤ vs.length := by
      cases vs with
      | nil => exact absurd rfl hz
      | cons => simp
    have hz2 : ((vs.length : Int) == 0) = false := by simp; exact hz
    have HE := hide (buk_end HS.out n1 hz)
    clear hz
    go_enter Try.func44, Try.ntmps44
    go_wp2_with (go_at_call 70; refine (prof_impl _ _ _ _ _ (hR.ext (by repeat (first | exact Ext.refl _ | assumption | refine Ext.alloc ?_ _ | refine Ext.drew ?_ | refine Ext.trans ?_ (by assumption))))).mono ?_; rintro e w1 ⟨rfl, hw1⟩; have q0 := Ext.keep (w' := w1) (by repeat (first | exact Ext.refl _ | assumption | refine Ext.alloc ?_ _ | refine Ext.drew ?_ | refine Ext.trans ?_ (by assumption))) q0; have q1 := Ext.keep (w' := w1) (by repeat (first | exact Ext.refl _ | assumption | refine Ext.alloc ?_ _ | refine Ext.drew ?_ | refine Ext.trans ?_ (by assumption))) q1)
    have hw : Ext w w1 := (by repeat (first | exact Ext.refl _ | assumption | refine Ext.alloc ?_ _ | refine Ext.drew ?_ | refine Ext.trans ?_ (by assumption)))
    have hR0 := hR.ext hw
    obtain ⟨wb, hwb⟩ : ∃ wb : World, wb = w1 := ⟨_, rfl⟩
    subst hwb
    have b2 : 0 ≤ allV vs ∧ allV vs ≤ 24000 := sumV_bd' HS.out
    go_loopw [3] (fun i wr => ∃ k : Nat, k + 1 ≤ n ∧ i = .int .i64 ((k + 1 : Nat) : Int) ∧ Hid (∀ j, j < k → bukN n vs (j + 1) = true) ∧ Ext wb wr) (fun i _ => n + 1 - (intOf i).toNat)
    case atStart => exact ⟨0, n1, rfl, fun j hj => absurd hj (by omega), Ext.refl _⟩
    case round =>
      obtain ⟨k, hk, rfl, hall, hwr⟩ := hrel
      have r0 := hwr.keep q0
      have r1 := hwr.keep q1
      have hRr := hR0.ext hwr
      obtain ⟨s, hs⟩ : ∃ s : Nat, s = k + 1 := ⟨_, rfl⟩
      rw [← hs]
      have HK := hide hs
      have hs1 : k + 1 ≤ s := by omega
      have hs2 : s ≤ k + 1 := by omega
      clear hs
      obtain ⟨M, hM⟩ : ∃ M : Int, M = maxL (rowL n (wthV vs s)) := ⟨_, rfl⟩
      have hne : rowL n (wthV vs s) ≠ [] := fun e => by have := rowL_len n (wthV vs s); rw [e] at this; simp at this; omega
      obtain ⟨j, hj⟩ := List.mem_iff_getElem?.1 (maxL_mem hne)
      obtain ⟨hjn, hjv⟩ := rowL_val hj
      have b1 := wthV_bd HS.out s j
      rw [← hjv, ← hM] at b1
      have hmb := max_buk (vs := vs) n1 s
      rw [← hM] at hmb
      have HMB := hide hmb
      have HM := hide hM
      clear hM hne hj hjv hjn hmb
      have y1 : wrap64 (2 * M) = 2 * M := IntWalk.wrap64_in _ (by omega)
      have y2 : IntKind.i64.wrap (2 * M) = 2 * M := IntWalk.i64_in _ (by omega)
      have HC : Hid (∀ w', Ext wb w' → Calls Try.prog 32 #[.agg #[.int .i64 n, .slice a vs.length c]] w' fun e w'' => e = .returned (.int .i64 (allV vs)) ∧ Ext w' w'') := fun w' hw' =>
        (count_impl w' n a c vs (hR0.ext hw')).mono fun _ _ ⟨h1, h2⟩ => ⟨by rw [h1, if_pos h0], h2⟩
      go_wp2
      refine wp_region_O [0, 1, 5, 2, 3, 4, 6, 7] (by kernel_rfl) rfl (by kernel_rfl) ?_
      repeat' (refine wpO_stepQ rfl (fun K hK => ?_)
               go_simp
               try (rw [if_neg (by intro h; simp [undef] at h)])
               try split
               all_goals
                 first
                 | (refine hK _ ?_
                    clear hK K)
                 | (apply Exists.intro
                    refine ⟨fun wq hwq => ?_, hK _ ?_⟩
                    · have hcq := hwq.cellS
                      go_simp
                      first
                      | exact ⟨Ext.refl _, rfl⟩
                      | exact ⟨Ext.refl _, HC.out _ (by repeat (first | exact Ext.refl _ | assumption | refine Ext.alloc ?_ _ | refine Ext.drew ?_ | refine Ext.trans ?_ (by assumption)))⟩
                    clear hK K))
      refine wpO_stepS rfl (by kernel_rfl) (fun K hK wq hwq => ?_)
      go_simp
      refine (wth_impl _ n a c vs s (hRr.ext (by repeat (first | exact Ext.refl _ | assumption | refine Ext.alloc ?_ _ | refine Ext.drew ?_ | refine Ext.trans ?_ (by assumption)))) HS.out n2).mono ?_
      rintro e w3 ⟨v, rfl, hv, hw3⟩
      refine ⟨hw3, hK _ _ ?_⟩
      clear hK K
      obtain ⟨av, cv, rfl, _, hRv, _⟩ := hv.fr
      have HX : Hid (∀ w', Ext w3 w' → Calls Try.prog 97 #[.slice av n cv] w' fun e w'' => e = .returned (.int .i64 M) ∧ Ext w' w'') := fun w' hw' => by
        have h := max_impl w' av cv _ (hRv.ext hw') (by rw [rowL_len]; omega) (by rw [rowL_len]; omega)
        rw [rowL_len, ← HM.out] at h
        exact h
      rw [rowL_len]
      repeat' (refine wpO_stepQ rfl (fun K hK => ?_)
               go_simp
               try (rw [if_neg (by intro h; simp [undef] at h)])
               try split
               all_goals
                 first
                 | (refine hK _ ?_
                    clear hK K)
                 | (apply Exists.intro
                    refine ⟨fun wq hwq => ?_, hK _ ?_⟩
                    · have hcq := hwq.cellS
                      go_simp
                      first
                      | exact ⟨Ext.refl _, rfl⟩
                      | exact ⟨Ext.refl _, HX.out _ (by repeat (first | exact Ext.refl _ | assumption | refine Ext.alloc ?_ _ | refine Ext.drew ?_ | refine Ext.trans ?_ (by assumption)))⟩
                      | exact ⟨Ext.refl _, HC.out _ (by repeat (first | exact Ext.refl _ | assumption | refine Ext.alloc ?_ _ | refine Ext.drew ?_ | refine Ext.trans ?_ (by assumption)))⟩
                    clear hK K))
      refine wpO_nil (fun wz hwz => ?_)
      by_cases ht : 2 * M ≤ allV vs
      · go_wp2
        have hkn : k + 1 ≠ n := fun e => by
          have h1 := HMB.out.1 ht
          rw [HK.out, e, HE.out] at h1
          cases h1
        exact ⟨⟨s, by omega, by go_num, fun x hx => by
          rcases Nat.lt_succ_iff_lt_or_eq.1 (show x < k + 1 by omega) with h | h
          · exact hall.out x h
          · rw [h, ← HK.out]; exact HMB.out.1 ht, (by repeat (first | exact Ext.refl _ | assumption | refine Ext.alloc ?_ _ | refine Ext.drew ?_ | refine Ext.trans ?_ (by assumption)))⟩, by simp [intOf]; omega⟩
      · go_wp2
        go_ret
        refine ⟨ret_int ?_, (by repeat (first | exact Ext.refl _ | assumption | refine Ext.alloc ?_ _ | refine Ext.drew ?_ | refine Ext.trans ?_ (by assumption)))⟩
        have h1 : bukN n vs (k + 1) = false := by
          cases hb : bukN n vs (k + 1)
          · rfl
          · exact absurd (HMB.out.2 (by rw [HK.out]; exact hb)) (by omega)
        simp only [levO, h0, if_true, Int.toNat_natCast]
        rw [levV_at (by omega) hall.out h1, HK.out]

end Go.Proofs.Ytbfiaflagadkoaa
