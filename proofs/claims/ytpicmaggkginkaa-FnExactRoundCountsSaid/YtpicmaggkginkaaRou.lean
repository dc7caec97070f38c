/- The counts of a round. -/
import Derived.Test.YtpicmaggkginkaaOrd
import Derived.Test.YtpicmaggkginkaaFun
namespace Go.Proofs.Ytpicmaggkginkaa
open Go.RowKit

def rouV (n : Nat) (vs : List Vt) (out : List Int) (i : Nat) : Int := if hasI out (i : Int) then -1 else worF vs (leftL n out) i
def rouOk (n : Nat) (out : List Int) : Bool := out.all (hasB n) && !decide (leftL n out = [])
def rouO (sz : Int) (vs : List Vt) (out : List Int) : List Int := if profOk sz vs && rouOk sz.toNat out then rowL sz.toNat (rouV sz.toNat vs out) else []
set_option maxRecDepth 100000 in
theorem rouO_len (sz : Int) (vs : List Vt) (out : List Int) : (rouO sz vs out).length ≤ 5 := by
  unfold rouO
  cases h0 : profOk sz vs
  · simp
  · obtain ⟨n, rfl, n1, n2⟩ := prof_nat h0
    split
    · simp [rowL_len]; omega
    · simp
set_option maxRecDepth 100000 in
theorem left_len (n : Nat) (q : Nat → Bool) : (upL n q = []) ↔ (upL n q).length = 0 := List.length_eq_zero_iff.symm

set_option maxRecDepth 100000 in
set_option maxHeartbeats 4000000 in
theorem rou_spec (w : World) (sz : Int) (a ao : Option Addr) (c co : Nat) (vs : List Vt) (out : List Int) (hR : RdV w a vs) (hO : RdI w ao out) (hol : out.length ≤ 2000000) :
    Calls Try.prog 36 #[.agg #[.int .i64 sz, .slice a vs.length c], .slice ao out.length co] w fun e w' => ∃ v, e = .returned v ∧ OwnI w' w.heap.size v (rouO sz vs out) ∧ Ext w w' := by
  have q0 := new0 w (.int .i64 sz) [.slice a vs.length c] 30
  have q1 := new1 w (.int .i64 sz) (.slice a vs.length c) [] 30
  cases h0 : profOk sz vs
  · go_enter Try.func36, Try.ntmps36
    go_wp2_with (go_at_call 51; refine (prof_spec _ _ _ _ _ (hR.ext (by repeat (first | exact Ext.refl _ | assumption | refine Ext.alloc ?_ _ | refine Ext.drew ?_ | refine Ext.trans ?_ (by assumption))))).mono ?_; rintro e w1 ⟨rfl, hw1⟩; have q0 := Ext.keep (w' := w1) (by repeat (first | exact Ext.refl _ | assumption | refine Ext.alloc ?_ _ | refine Ext.drew ?_ | refine Ext.trans ?_ (by assumption))) q0; have q1 := Ext.keep (w' := w1) (by repeat (first | exact Ext.refl _ | assumption | refine Ext.alloc ?_ _ | refine Ext.drew ?_ | refine Ext.trans ?_ (by assumption))) q1)
    go_ret
    exact ⟨_, rfl, by simp [rouO, h0]; exact OwnI.nil _ _, (by repeat (first | exact Ext.refl _ | assumption | refine Ext.alloc ?_ _ | refine Ext.drew ?_ | refine Ext.trans ?_ (by assumption)))⟩
  obtain ⟨n, rfl, n1, n2⟩ := prof_nat h0
  have HS := hide (prof_small h0)
  go_enter Try.func36, Try.ntmps36
  go_wp2_with (go_at_call 51; refine (prof_spec _ _ _ _ _ (hR.ext (by repeat (first | exact Ext.refl _ | assumption | refine Ext.alloc ?_ _ | refine Ext.drew ?_ | refine Ext.trans ?_ (by assumption))))).mono ?_; rintro e w1 ⟨rfl, hw1⟩; have q0 := Ext.keep (w' := w1) (by repeat (first | exact Ext.refl _ | assumption | refine Ext.alloc ?_ _ | refine Ext.drew ?_ | refine Ext.trans ?_ (by assumption))) q0; have q1 := Ext.keep (w' := w1) (by repeat (first | exact Ext.refl _ | assumption | refine Ext.alloc ?_ _ | refine Ext.drew ?_ | refine Ext.trans ?_ (by assumption))) q1)
  have hw : Ext w w1 := (by repeat (first | exact Ext.refl _ | assumption | refine Ext.alloc ?_ _ | refine Ext.drew ?_ | refine Ext.trans ?_ (by assumption)))
  have hR0 := hR.ext hw
  have hO0 := hO.ext hw
  obtain ⟨wb, hwb⟩ : ∃ wb : World, wb = w1 := ⟨_, rfl⟩
  subst hwb
  go_loopw [5, 6] (fun s i wr => ∃ k : Nat, k ≤ n ∧ i = .int .i64 k ∧ s = .int .i64 ((n : Int) - k + ((upL k (notIn out)).length : Int)) ∧ Ext wb wr) (fun _ i _ => n - (intOf i).toNat)
  case atStart => exact ⟨0, Nat.zero_le _, rfl, by simp [upL], Ext.refl _⟩
  case round =>
    obtain ⟨k, hk, rfl, rfl, hwr⟩ := hrel
    have r0 := hwr.keep q0
    have hOr := hO0.ext hwr
    have hul := upL_len k (notIn out)
    by_cases hlt : k < n
    · obtain ⟨L, hL⟩ : ∃ L : Nat, L = (upL k (notIn out)).length := ⟨_, rfl⟩
      rw [← hL] at hul ⊢
      have HL := hide hL
      clear hL
      cases ho : hasI out (k : Int)
      · have hnx : (upL (k + 1) (notIn out)).length = L + 1 := by rw [upL_succ, HL.out]; simp [notIn, ho]
        have HN := hide hnx
        clear hnx
        go_wp2_with (go_at_call 76; refine (out_spec _ _ _ _ _ (hOr.ext (by repeat (first | exact Ext.refl _ | assumption | refine Ext.alloc ?_ _ | refine Ext.drew ?_ | refine Ext.trans ?_ (by assumption)))) hol).mono ?_; rintro e w1 ⟨rfl, hw1⟩)
        exact ⟨⟨k + 1, by omega, by go_num, by rw [HN.out]; go_num, (by repeat (first | exact Ext.refl _ | assumption | refine Ext.alloc ?_ _ | refine Ext.drew ?_ | refine Ext.trans ?_ (by assumption)))⟩, by simp [intOf]; omega⟩
      · have hnx : (upL (k + 1) (notIn out)).length = L := by rw [upL_succ, HL.out]; simp [notIn, ho]
        have HN := hide hnx
        clear hnx
        go_wp2_with (go_at_call 76; refine (out_spec _ _ _ _ _ (hOr.ext (by repeat (first | exact Ext.refl _ | assumption | refine Ext.alloc ?_ _ | refine Ext.drew ?_ | refine Ext.trans ?_ (by assumption)))) hol).mono ?_; rintro e w1 ⟨rfl, hw1⟩)
        exact ⟨⟨k + 1, by omega, by go_num, by rw [HN.out]; go_num, (by repeat (first | exact Ext.refl _ | assumption | refine Ext.alloc ?_ _ | refine Ext.drew ?_ | refine Ext.trans ?_ (by assumption)))⟩, by simp [intOf]; omega⟩
    · have hkn : k = n := by omega
      have hv : (n : Int) - k + ((upL k (notIn out)).length : Int) = ((leftL n out).length : Int) := by rw [hkn]; unfold leftL; omega
      rw [hv]
      clear hv hul hkn
      obtain ⟨L, hL⟩ : ∃ L : Nat, L = (leftL n out).length := ⟨_, rfl⟩
      rw [← hL]
      have HL := hide hL
      clear hL
      go_wp2
      obtain ⟨wo, hwo⟩ : ∃ wo : World, wo = wr := ⟨_, rfl⟩
      subst hwo
      go_loopw [8, 29] (fun _ i wr => ∃ j : Nat, j ≤ out.length ∧ i = .int .i64 j ∧ Hid ((out.take j).all (hasB n) = true) ∧ Ext wo wr) (fun _ i _ => out.length - (intOf i).toNat)
      case atStart => exact ⟨0, Nat.zero_le _, rfl, rfl, Ext.refl _⟩
      case round =>
        obtain ⟨j, hj, rfl, hall, hwr2⟩ := hrel
        have r0 := (hwr.trans hwr2).keep q0
        have r1 := (hwr.trans hwr2).keep q1
        have hOr := hO0.ext (hwr.trans hwr2)
        by_cases hjt : j < out.length
        · obtain ⟨x, hx⟩ := at_of_lt hjt
          obtain ⟨b, off, rfl, d0⟩ := hOr.at_ hx
          have HX := hide hx
          clear hx
          cases hc : hasB n x
          · go_wp2_with (go_at_call 77; refine (cand_spec _ _ _ _ _ _ (by omega) (by omega)).mono ?_; rintro e w1 ⟨rfl, hw1⟩)
            go_ret
            refine ⟨_, rfl, ?_, hw.trans (hwr.trans (by repeat (first | exact Ext.refl _ | assumption | refine Ext.alloc ?_ _ | refine Ext.drew ?_ | refine Ext.trans ?_ (by assumption))))⟩
            have : out.all (hasB n) = false := all_false HX.out hc
            simp only [rouO, rouOk, Int.toNat_natCast, this, Bool.false_and, Bool.and_false, if_false, Bool.false_eq_true]
            exact OwnI.nil _ _
          · go_wp2_with (go_at_call 77; refine (cand_spec _ _ _ _ _ _ (by omega) (by omega)).mono ?_; rintro e w1 ⟨rfl, hw1⟩)
            exact ⟨⟨j + 1, by omega, by go_num, (all_take HX.out hall.out).trans hc, (by repeat (first | exact Ext.refl _ | assumption | refine Ext.alloc ?_ _ | refine Ext.drew ?_ | refine Ext.trans ?_ (by assumption)))⟩, by simp [intOf]; omega⟩
        · have hA := hide (all_whole (by omega) hall.out)
          by_cases hz : L = 0
          · subst hz
            go_wp2
            go_ret
            refine ⟨_, rfl, ?_, hw.trans (hwr.trans hwr2)⟩
            have : leftL n out = [] := List.length_eq_zero_iff.1 HL.out.symm
            simp only [rouO, rouOk, Int.toNat_natCast, this, decide_true, Bool.not_true, Bool.and_false, if_false, Bool.false_eq_true]
            exact OwnI.nil _ _
          · have hz2 : ((L : Int) == 0) = false := by simp; omega
            have hok : rouO n vs out = rowL n (rouV n vs out) := by
              have : ¬ leftL n out = [] := fun e => hz (by rw [HL.out, e]; rfl)
              simp [rouO, rouOk, h0, hA.out, this]
            have HO := hide hok
            clear hok
            go_wp2
            have hO2 := OwnI.made0 wr
            have hE2 := Ext.new wr (.cells #[] 3)
            obtain ⟨wc, hwc⟩ : ∃ wc : World, wc = wr := ⟨_, rfl⟩
            subst hwc
            generalize wc.alloc (.cells #[] 3) = W1 at hO2 hE2 ⊢
            have hwc := hwr.trans hwr2
            go_loopw [9, 10] (fun v i wr => ∃ k : Nat, k ≤ n ∧ i = .int .i64 k ∧ OwnI wr wc.heap.size v (rowL k (rouV n vs out)) ∧ Ext wc wr) (fun _ i _ => n - (intOf i).toNat)
            case atStart => exact ⟨0, Nat.zero_le _, rfl, hO2, hE2⟩
            case round =>
              clear hO2 hE2 r0 r1
              obtain ⟨i, hi, rfl, hown, hwr3⟩ := hrel
              have r0 := (hwc.trans hwr3).keep q0
              have r1 := (hwc.trans hwr3).keep q1
              have hOr := hO0.ext (hwc.trans hwr3)
              have hRr := hR0.ext (hwc.trans hwr3)
              have hrl := rowL_len i (rouV n vs out)
              by_cases hit : i < n
              · cases ho : hasI out (i : Int)
                · have hv : rouV n vs out i = sumV (numP n out i false) vs := by unfold rouV; rw [ho, num_first HS.out hit]; rfl
                  have HV := hide hv
                  clear hv
                  go_wp2_with (first | (go_at_call 76; refine (out_spec _ _ _ _ _ (hOr.ext (by repeat (first | exact Ext.refl _ | assumption | refine Ext.alloc ?_ _ | refine Ext.drew ?_ | refine Ext.trans ?_ (by assumption)))) hol).mono ?_; rintro e w1 ⟨rfl, hw1⟩; have r0 := Ext.keep (w' := w1) (by repeat (first | exact Ext.refl _ | assumption | refine Ext.alloc ?_ _ | refine Ext.drew ?_ | refine Ext.trans ?_ (by assumption))) r0; have r1 := Ext.keep (w' := w1) (by repeat (first | exact Ext.refl _ | assumption | refine Ext.alloc ?_ _ | refine Ext.drew ?_ | refine Ext.trans ?_ (by assumption))) r1) | (go_at_call 78; refine (num_spec _ _ _ _ _ _ _ _ _ _ (hRr.ext (by repeat (first | exact Ext.refl _ | assumption | refine Ext.alloc ?_ _ | refine Ext.drew ?_ | refine Ext.trans ?_ (by assumption)))) HS.out n2 (hOr.ext (by repeat (first | exact Ext.refl _ | assumption | refine Ext.alloc ?_ _ | refine Ext.drew ?_ | refine Ext.trans ?_ (by assumption)))) hol).mono ?_; rintro e w1 ⟨rfl, hw1⟩) | (at_builtin; refine wpList_appI wc _ rfl _ _ rfl _ (rowL i (rouV n vs out)) _ rfl (hown.ext (by repeat (first | exact Ext.refl _ | assumption | refine Ext.alloc ?_ _ | refine Ext.drew ?_ | refine Ext.trans ?_ (by assumption)))) (by repeat (first | exact Ext.refl _ | assumption | refine Ext.alloc ?_ _ | refine Ext.drew ?_ | refine Ext.trans ?_ (by assumption))) rfl (by omega) ?_; intro v' w3 hown3 hw3))
                  exact ⟨⟨i + 1, by omega, by go_num, by rw [rowL_succ, HV.out]; exact hown3, (by repeat (first | exact Ext.refl _ | assumption | refine Ext.alloc ?_ _ | refine Ext.drew ?_ | refine Ext.trans ?_ (by assumption)))⟩, by simp [intOf]; omega⟩
                · have hv : rouV n vs out i = -1 := by unfold rouV; rw [ho]; rfl
                  have HV := hide hv
                  clear hv
                  go_wp2_with (first | (go_at_call 76; refine (out_spec _ _ _ _ _ (hOr.ext (by repeat (first | exact Ext.refl _ | assumption | refine Ext.alloc ?_ _ | refine Ext.drew ?_ | refine Ext.trans ?_ (by assumption)))) hol).mono ?_; rintro e w1 ⟨rfl, hw1⟩; have r0 := Ext.keep (w' := w1) (by repeat (first | exact Ext.refl _ | assumption | refine Ext.alloc ?_ _ | refine Ext.drew ?_ | refine Ext.trans ?_ (by assumption))) r0; have r1 := Ext.keep (w' := w1) (by repeat (first | exact Ext.refl _ | assumption | refine Ext.alloc ?_ _ | refine Ext.drew ?_ | refine Ext.trans ?_ (by assumption))) r1) | (at_builtin; refine wpList_appI wc _ rfl _ _ rfl _ (rowL i (rouV n vs out)) _ rfl (hown.ext (by repeat (first | exact Ext.refl _ | assumption | refine Ext.alloc ?_ _ | refine Ext.drew ?_ | refine Ext.trans ?_ (by assumption)))) (by repeat (first | exact Ext.refl _ | assumption | refine Ext.alloc ?_ _ | refine Ext.drew ?_ | refine Ext.trans ?_ (by assumption))) rfl (by omega) ?_; intro v' w3 hown3 hw3))
                  exact ⟨⟨i + 1, by omega, by go_num, by rw [rowL_succ, HV.out]; exact hown3, (by repeat (first | exact Ext.refl _ | assumption | refine Ext.alloc ?_ _ | refine Ext.drew ?_ | refine Ext.trans ?_ (by assumption)))⟩, by simp [intOf]; omega⟩
              · have hin : i = n := by omega
                go_wp2
                go_ret
                refine ⟨_, rfl, ?_, hw.trans (hwc.trans hwr3)⟩
                rw [HO.out]
                rw [hin] at hown
                exact hown.base (Nat.le_trans hw.size hwc.size)

set_option maxRecDepth 100000 in
set_option maxHeartbeats 4000000 in
theorem rou_impl (w : World) (sz : Int) (a ao : Option Addr) (c co : Nat) (vs : List Vt) (out : List Int) (hR : RdV w a vs) (hO : RdI w ao out) (hol : out.length ≤ 2000000) :
    Calls Try.prog 37 #[.agg #[.int .i64 sz, .slice a vs.length c], .slice ao out.length co] w fun e w' => ∃ v, e = .returned v ∧ WrI w' w.heap.size v (rouO sz vs out) ∧ Ext w w' := by
  have q0 := new0 w (.int .i64 sz) [.slice a vs.length c] 30
  have q1 := new1 w (.int .i64 sz) (.slice a vs.length c) [] 30
  cases h0 : profOk sz vs
  · go_enter Try.func37, Try.ntmps37
    go_wp2_with (go_at_call 55; refine (prof_impl _ _ _ _ _ (hR.ext (by repeat (first | exact Ext.refl _ | assumption | refine Ext.alloc ?_ _ | refine Ext.drew ?_ | refine Ext.trans ?_ (by assumption))))).mono ?_; rintro e w1 ⟨rfl, hw1⟩; have q0 := Ext.keep (w' := w1) (by repeat (first | exact Ext.refl _ | assumption | refine Ext.alloc ?_ _ | refine Ext.drew ?_ | refine Ext.trans ?_ (by assumption))) q0; have q1 := Ext.keep (w' := w1) (by repeat (first | exact Ext.refl _ | assumption | refine Ext.alloc ?_ _ | refine Ext.drew ?_ | refine Ext.trans ?_ (by assumption))) q1)
    go_ret
    exact ⟨_, rfl, by simp [rouO, h0]; exact WrI.nil _ _ _ _, (by repeat (first | exact Ext.refl _ | assumption | refine Ext.alloc ?_ _ | refine Ext.drew ?_ | refine Ext.trans ?_ (by assumption)))⟩
  obtain ⟨n, rfl, n1, n2⟩ := prof_nat h0
  have HS := hide (prof_small h0)
  have y1 : wrap64 ((n : Int) - 1) = (n : Int) - 1 := IntWalk.wrap64_in _ (by omega)
  cases hall : out.all (hasB n)
  · have HA : Hid (out.all (fun x => inR x 0 ((n : Int) - 1)) = false) := hall
    have HN : Hid (rouO n vs out = []) := by show _ = _; simp [rouO, rouOk, hall]
    go_enter Try.func37, Try.ntmps37
    go_wp2_with (first | (go_at_call 55; refine (prof_impl _ _ _ _ _ (hR.ext (by repeat (first | exact Ext.refl _ | assumption | refine Ext.alloc ?_ _ | refine Ext.drew ?_ | refine Ext.trans ?_ (by assumption))))).mono ?_; rintro e w1 ⟨rfl, hw1⟩; have q0 := Ext.keep (w' := w1) (by repeat (first | exact Ext.refl _ | assumption | refine Ext.alloc ?_ _ | refine Ext.drew ?_ | refine Ext.trans ?_ (by assumption))) q0; have q1 := Ext.keep (w' := w1) (by repeat (first | exact Ext.refl _ | assumption | refine Ext.alloc ?_ _ | refine Ext.drew ?_ | refine Ext.trans ?_ (by assumption))) q1) | (go_at_call 79; refine (allIn_impl _ ao co out 0 _ (hO.ext (by repeat (first | exact Ext.refl _ | assumption | refine Ext.alloc ?_ _ | refine Ext.drew ?_ | refine Ext.trans ?_ (by assumption)))) hol).mono ?_; rintro e w2 ⟨rfl, hw2⟩; rw [HA.out]))
    go_ret
    exact ⟨_, rfl, by rw [HN.out]; exact WrI.nil _ _ _ _, (by repeat (first | exact Ext.refl _ | assumption | refine Ext.alloc ?_ _ | refine Ext.drew ?_ | refine Ext.trans ?_ (by assumption)))⟩
  have HA : Hid (out.all (fun x => inR x 0 ((n : Int) - 1)) = true) := hall
  have HAL := hide hall
  clear hall
  go_enter Try.func37, Try.ntmps37
  go_wp2_with (first | (go_at_call 55; refine (prof_impl _ _ _ _ _ (hR.ext (by repeat (first | exact Ext.refl _ | assumption | refine Ext.alloc ?_ _ | refine Ext.drew ?_ | refine Ext.trans ?_ (by assumption))))).mono ?_; rintro e w1 ⟨rfl, hw1⟩; have q0 := Ext.keep (w' := w1) (by repeat (first | exact Ext.refl _ | assumption | refine Ext.alloc ?_ _ | refine Ext.drew ?_ | refine Ext.trans ?_ (by assumption))) q0; have q1 := Ext.keep (w' := w1) (by repeat (first | exact Ext.refl _ | assumption | refine Ext.alloc ?_ _ | refine Ext.drew ?_ | refine Ext.trans ?_ (by assumption))) q1) | (go_at_call 79; refine (allIn_impl _ ao co out 0 _ (hO.ext (by repeat (first | exact Ext.refl _ | assumption | refine Ext.alloc ?_ _ | refine Ext.drew ?_ | refine Ext.trans ?_ (by assumption)))) hol).mono ?_; rintro e w2 ⟨rfl, hw2⟩; rw [HA.out]; have q0 := hw2.keep q0; have q1 := hw2.keep q1))
  have hw : Ext w w2 := (by repeat (first | exact Ext.refl _ | assumption | refine Ext.alloc ?_ _ | refine Ext.drew ?_ | refine Ext.trans ?_ (by assumption)))
  have hR0 := hR.ext hw
  have hO0 := hO.ext hw
  obtain ⟨wb, hwb⟩ : ∃ wb : World, wb = w2 := ⟨_, rfl⟩
  subst hwb
  go_loopw [5, 6, 23] (fun v _ i wr => ∃ k : Nat, k ≤ n ∧ i = .int .i64 k ∧ OwnI wr wb.heap.size v (upL k (notIn out)) ∧ Ext wb wr) (fun _ _ i _ => n - (intOf i).toNat)
  case atStart => exact ⟨0, Nat.zero_le _, rfl, OwnI.nil _ _, Ext.refl _⟩
  case round =>
    obtain ⟨k, hk, rfl, hown, hwr⟩ := hrel
    have r0 := hwr.keep q0
    have r1 := hwr.keep q1
    have hOr := hO0.ext hwr
    have hul := upL_len k (notIn out)
    by_cases hlt : k < n
    · cases ho : hasI out (k : Int)
      · have hnx : upL (k + 1) (notIn out) = upL k (notIn out) ++ [(k : Int)] := by rw [upL_succ]; simp [notIn, ho]
        have HN := hide hnx
        clear hnx
        go_wp2_with (first | (go_at_call 80; refine (containsI _ _ _ _ _ (RdI.rdB (hOr.ext (by repeat (first | exact Ext.refl _ | assumption | refine Ext.alloc ?_ _ | refine Ext.drew ?_ | refine Ext.trans ?_ (by assumption)))) _ _ rfl) hol).mono ?_; rintro e w1 ⟨rfl, hw1⟩) | (at_builtin; refine wpList_appI wb _ rfl _ _ rfl _ (upL k (notIn out)) _ rfl (hown.ext (by repeat (first | exact Ext.refl _ | assumption | refine Ext.alloc ?_ _ | refine Ext.drew ?_ | refine Ext.trans ?_ (by assumption)))) (by repeat (first | exact Ext.refl _ | assumption | refine Ext.alloc ?_ _ | refine Ext.drew ?_ | refine Ext.trans ?_ (by assumption))) rfl (by omega) ?_; intro v' w3 hown3 hw3))
        exact ⟨⟨k + 1, by omega, by go_num, by rw [HN.out]; exact hown3, (by repeat (first | exact Ext.refl _ | assumption | refine Ext.alloc ?_ _ | refine Ext.drew ?_ | refine Ext.trans ?_ (by assumption)))⟩, by simp [intOf]; omega⟩
      · have hnx : upL (k + 1) (notIn out) = upL k (notIn out) := by rw [upL_succ]; simp [notIn, ho]
        have HN := hide hnx
        clear hnx
        go_wp2_with (go_at_call 80; refine (containsI _ _ _ _ _ (RdI.rdB (hOr.ext (by repeat (first | exact Ext.refl _ | assumption | refine Ext.alloc ?_ _ | refine Ext.drew ?_ | refine Ext.trans ?_ (by assumption)))) _ _ rfl) hol).mono ?_; rintro e w1 ⟨rfl, hw1⟩)
        exact ⟨⟨k + 1, by omega, by go_num, by rw [HN.out]; exact hown.ext hw1, (by repeat (first | exact Ext.refl _ | assumption | refine Ext.alloc ?_ _ | refine Ext.drew ?_ | refine Ext.trans ?_ (by assumption)))⟩, by simp [intOf]; omega⟩
    · have hkn : k = n := by omega
      rw [hkn] at hown
      clear hkn hul
      obtain ⟨left, hleft⟩ : ∃ left, left = leftL n out := ⟨_, rfl⟩
      have hown' : OwnI wr wb.heap.size u5 left := by rw [hleft]; exact hown
      have hbds : ∀ y ∈ left, ∃ i : Nat, i < n ∧ y = i := fun y hy => by
        rw [hleft] at hy
        obtain ⟨i, hi, _, rfl⟩ := leftL_mem.1 hy
        exact ⟨i, hi, rfl⟩
      have hlen5 : left.length ≤ n := by rw [hleft]; exact leftL_len
      obtain ⟨a5, L, c5, rfl, hL, hR5⟩ := hown'.formR'
      have HLF := hide hleft
      have HBD := hide hbds
      have HL := hide hL
      have hL5 : L ≤ n := by omega
      clear hown hown' hleft hbds hL hlen5
      by_cases hz : L = 0
      · subst hz
        go_wp2
        go_ret
        refine ⟨_, rfl, ?_, hw.trans hwr⟩
        have : leftL n out = [] := by rw [← HLF.out]; exact List.length_eq_zero_iff.1 HL.out.symm
        simp only [rouO, rouOk, Int.toNat_natCast, this, decide_true, Bool.not_true, Bool.and_false, if_false, Bool.false_eq_true]
        exact WrI.nil _ _ _ _
      · have hz2 : ((L : Int) == 0) = false := by simp; omega
        have hok : rouO n vs out = rowL n (rouV n vs out) := by
          have : ¬ leftL n out = [] := fun e => hz (by rw [HL.out, HLF.out, e]; rfl)
          simp [rouO, rouOk, h0, HAL.out, this]
        have HO := hide hok
        clear hok
        go_wp2_with fail
        refine (rep_impl _ _ _ _ _ n n1 n2 (new0 wr _ _ _)).mono ?_
        rintro e w3 ⟨g, rfl, hg, hB, hw3⟩
        have hwc : Ext wb w3 := (by repeat (first | exact Ext.refl _ | assumption | refine Ext.alloc ?_ _ | refine Ext.drew ?_ | refine Ext.trans ?_ (by assumption)))
        have hgb : wb.heap.size ≤ g := Nat.le_trans (Ext.size (show Ext wb (wr.alloc (.cells #[.int .i64 (-1)] 3)) from (by repeat (first | exact Ext.refl _ | assumption | refine Ext.alloc ?_ _ | refine Ext.drew ?_ | refine Ext.trans ?_ (by assumption))))) hg
        have hne5 : left ≠ [] := fun e => hz (by rw [HL.out, e]; rfl)
        have hlt5 : ∀ b off, a5 = some ⟨b, off, none⟩ → b < g := fun b off ha => by
          obtain ⟨a6, c6, e6, _, hb6⟩ := hR5.rdB L c5 HL.out.symm
          injection e6 with e6
          have h1 := hb6 b off (by rw [← e6]; exact ha) hne5
          have h2 : wr.heap.size ≤ g := Nat.le_trans (by simp) hg
          omega
        have HLT := hide hlt5
        clear hlt5
        have hR5 := hR5.ext hw3.a
        have hB := hB.congr (f' := fun o => .int .i64 (if hasI (left.take 0) (o : Int) then worF vs left o else -1)) (fun o _ => by simp [hasI])
        obtain ⟨wc, hwcc⟩ : ∃ wc : World, wc = w3 := ⟨_, rfl⟩
        subst hwcc
        go_wp2_with fail
        go_loopw [9, 44] (fun _ i wr => ∃ j : Nat, j ≤ L ∧ i = .int .i64 j ∧ BlkF wr g n (fun o => .int .i64 (if hasI (left.take j) (o : Int) then worF vs left o else -1)) ∧ Ext wb wr ∧ RdI wr a5 left) (fun _ i _ => L - (intOf i).toNat)
        case atStart => exact ⟨0, Nat.zero_le _, rfl, hB, hwc, hR5⟩
        case round =>
          clear hB hwc hR5 r0 r1
          obtain ⟨j, hj, rfl, hB, hwc, hR5⟩ := hrel
          have r0 := hwc.keep q0
          have r1 := hwc.keep q1
          have hRr := hR0.ext hwc
          by_cases hjt : j < L
          · obtain ⟨x, hx⟩ := at_of_lt (xs := left) (k := j) (by rw [← HL.out]; exact hjt)
            obtain ⟨b, off, rfl, d0⟩ := hR5.at_ hx
            obtain ⟨i, hi, rfl⟩ := HBD.out x (List.mem_of_getElem? hx)
            have hnx : ∀ o : Nat, hasI (left.take (j + 1)) (o : Int) = (hasI (left.take j) (o : Int) || decide (o = i)) := fun o => by
              rw [take_at hx, Bool.eq_iff_iff, hasI_iff, Bool.or_eq_true, hasI_iff, decide_eq_true_eq, List.mem_append, List.mem_singleton]
              constructor
              · rintro (h | h)
                · exact .inl h
                · exact .inr (by omega)
              · rintro (h | h)
                · exact .inl h
                · exact .inr (by omega)
            have HN := hide hnx
            have HC : Hid (∀ w', Ext wr w' → Calls Try.prog 82 #[.agg #[.int .i64 n, .slice a vs.length c], .slice (some ⟨b, off, none⟩) L c5, .int .i64 (i : Int)] w' fun e w'' => e = .returned (.int .i64 (worF vs left i)) ∧ Ext w' w'') := fun w' hw' => by
              have h := first_impl w' n a (some ⟨b, off, none⟩) c c5 vs left i (hRr.ext hw') HS.out (hR5.ext hw') (by rw [← HL.out]; omega)
              rw [← HL.out] at h
              exact h
            have d1 := hB.cell i hi
            have z1 := hB.fr i
            have HB := hide hB
            clear hnx hx hB
            go_wp2_with fail
            refine (HC.out _ (by repeat (first | exact Ext.refl _ | assumption | refine Ext.alloc ?_ _ | refine Ext.drew ?_ | refine Ext.trans ?_ (by assumption)))).mono ?_
            rintro e w4 ⟨rfl, hw4⟩
            have d1 := hw4.keep d1
            have z1 : w4.frozen? ⟨g, i, none⟩ = false := ((hw4.frozenS _ (by rw [HB.out.cell i hi]; rfl)).trans z1)
            go_wp2
            refine ⟨⟨j + 1, by omega, by go_num, ((HB.out.ext hw4).set i hi _).congr (fun o ho => ?_), Ext.setCell (hwc.trans hw4) hgb _, ?_⟩, by simp [intOf]; omega⟩
            · rw [HN.out]
              by_cases e : o = i
              · subst e; rw [if_pos rfl, if_pos (by simp)]
              · rw [if_neg e]
                simp [e]
            · exact ((Only.refl g w4).setCell i _).rdI (hR5.ext hw4) (fun b' off' e => by have := HLT.out b' off' e; omega)
          · have hjL : j = L := by omega
            go_wp2
            go_ret
            refine ⟨_, rfl, ?_, hw.trans hwc⟩
            rw [HO.out]
            refine hB.wrI (rowL_len _ _) (fun o x hx => ?_) (Nat.le_trans hw.size hgb) (Nat.le_refl _)
            obtain ⟨ho, rfl⟩ := rowL_val hx
            rw [hjL, List.take_of_length_le (by rw [← HL.out]; omega)]
            unfold rouV
            cases h1 : hasI out (o : Int)
            · have h2 : hasI left (o : Int) = true := by
                rw [hasI_iff, HLF.out, leftL_mem]
                exact ⟨o, ho, (fun h => by rw [hasI_iff.2 h] at h1; cases h1), rfl⟩
              rw [if_pos h2, if_neg (by decide), ← HLF.out]
            · have h2 : ¬ (hasI left (o : Int) = true) := by
                rw [hasI_iff, HLF.out, leftL_mem]
                rintro ⟨i, _, hio, e⟩
                have : i = o := by omega
                subst this
                exact hio (hasI_iff.1 h1)
              rw [if_neg h2, if_pos rfl]

end Go.Proofs.Ytpicmaggkginkaa
