/- The walk through FnTop. -/
import Derived.Test.YtilcdnkkabmbfaaGreatCk24
import Derived.Test.YtilcdnkkabmbfaaGreatCk26
import Derived.Test.YtilcdnkkabmbfaaGreatCk30
import Derived.Test.YtilcdnkkabmbfaaGreatCk20
import Derived.Test.YtilcdnkkabmbfaaGreatCk21
import Derived.Test.YtilcdnkkabmbfaaGreatCk22
import Derived.Test.YtilcdnkkabmbfaaGreatCk23
import Derived.Test.YtilcdnkkabmbfaaGreatCk13
namespace Go.Proofs.YtilcdnkkabmbfaaGreat
open Go.RowKit

/-- A call that returns a value, from a world on. -/
def ValT (K : Nat) (args : Array Value) (W0 : World) (v : Value) : Prop := ∀ W, Ext W0 W → Calls Tryz.prog K args W fun e w' => e = .returned v ∧ Ext W w'
set_option maxRecDepth 100000 in
theorem ValT.at {K : Nat} {args : Array Value} {W0 : World} {v : Value} (h : ValT K args W0 v) (W : World) (hW : Ext W0 W) : Calls Tryz.prog K args W fun e w' => e = .returned v ∧ Ext W w' := h W hW

set_option maxRecDepth 100000 in
set_option maxHeartbeats 8000000 in
theorem tps_law (w : World) (a : Option Addr) (c : Nat) (bs : List Int) (hR : RdY w a bs) (_ : bs.length ≤ maxLen) :
    Calls Tryz.prog 6 #[.slice a bs.length c] w fun e w' => e = .returned (.bool true) ∧ Ext w w' := by
  by_cases hb : bs.length ≤ 1048576
  · go_enter Tryz.func6, Tryz.ntmps6
    go_wp2_with fail
    refine (numY_spec _ a c 0 bs (hR.ext (by repeat (first | exact Ext.refl _ | assumption | refine Ext.alloc ?_ _ | refine Ext.drew ?_ | refine Ext.trans ?_ (by assumption)))) hb (by omega)).mono ?_
    rintro e w1 ⟨x, rfl, hx, hw1⟩
    go_wp2_with fail
    obtain ⟨n, hn, n1, n5⟩ : ∃ n : Nat, 1 + (x : Int) % 4 = n ∧ 1 ≤ n ∧ n ≤ 4 := ⟨(1 + (x : Int) % 4).toNat, by omega, by omega, by omega⟩
    rw [hn]
    clear hn hx
    refine (mkprofC_spec _ a c 2 n bs (hR.ext (by repeat (first | exact Ext.refl _ | assumption | refine Ext.alloc ?_ _ | refine Ext.drew ?_ | refine Ext.trans ?_ (by assumption)))) hb (by omega) n1 (by omega)).mono ?_
    rintro e w2 ⟨v, rfl, a', vs, c', rfl, hRV, ⟨h0, v1, v5, v6⟩, hw2, hcap⟩
    have q0 := new0 w2 (.int .i64 n) [.slice a' vs.length c'] 29
    have q1 := new1 w2 (.int .i64 n) (.slice a' vs.length c') [] 29
    have hE := Ext.new w2 (.cells #[.int .i64 n, .slice a' vs.length c'] 29)
    go_wp2_with fail
    have hw := (Ext.trans hw1 hw2).trans hE
    have hRV := hRV.ext hE
    have HV := hide (⟨v1, v5, v6⟩ : 1 ≤ vs.length ∧ vs.length ≤ 5 ∧ ∀ x ∈ vs, x.2 ≤ 6)
    have HCAP := hide hcap
    have HNUM : Hid (∀ W' (k : Nat), k ≤ 1000 → Ext w W' → Calls Tryz.prog 14 #[.slice a bs.length c, .int .i64 k] W' fun e w' => ∃ x : Nat, e = .returned (.int .i64 x) ∧ x ≤ 65536 ∧ Ext W' w') := hide (fun W' k hk hW' => (numY_spec W' a c k bs (hR.ext hW') hb hk).mono fun e w' ⟨x, h1, h2, h3⟩ => ⟨x, h1, by omega, h3⟩)
    clear hR hb hw1 hw2 hE v1 v5 v6 hcap
    have HSZ : Hid ((w2.alloc (.cells #[.int .i64 n, .slice a' vs.length c'] 29)).heap.size = w2.heap.size + 1) := hide (by simp)
    generalize w2.alloc (.cells #[.int .i64 n, .slice a' vs.length c'] 29) = W0 at hw hRV q0 q1 HSZ ⊢
    have H0 := hide h0
    have HS := hide (prof_small h0)
    have HMC : Hid (∀ r : Int, (r = 4 ∨ r = 5 ∨ r = 9 ∨ r = 11 ∨ r = 12 ∨ r = 13) → ValT 21 #[.int .i64 r, .agg #[.int .i64 n, .slice a' vs.length c']] W0 (.bool false)) := hide (fun r hr W hW => by
      have h := misc_impl W r n a' c' vs (hRV.ext hW)
      rw [misc_no h0 hr] at h
      exact h)
    have HWB : Hid (∀ r : Int, 1 ≤ r → r ≤ 13 → ∃ b : Int, 0 ≤ b ∧ ValT 18 #[.int .i64 r, .agg #[.int .i64 n, .slice a' vs.length c']] W0 (.int .i64 b)) := hide (fun r r1 r2 => by
      obtain ⟨b, _, hb⟩ := winB_some (rule := r) h0 r1 r2
      refine ⟨b, by omega, fun W hW => ?_⟩
      have h := winb_impl W r n a' c' vs (hRV.ext hW)
      rw [hb] at h
      exact h)
    have HMO : Hid (∀ r : Int, 1 ≤ r → r ≤ 5 → ValT 22 #[.int .i64 r, .agg #[.int .i64 n, .slice a' vs.length c']] W0 (.int .i64 (-1))) := hide (fun r r1 r2 W hW => by
      have h := mon_impl W r n a' c' vs (hRV.ext hW)
      rw [mon_no h0 r1 r2] at h
      exact h)
    have HAB : Hid (∀ r : Int, 1 ≤ r → r ≤ 3 → ValT 23 #[.int .i64 r, .agg #[.int .i64 n, .slice a' vs.length c']] W0 (.int .i64 (-1))) := hide (fun r r1 r2 W hW => by
      have h := abs_impl W r n a' c' vs HCAP.out (hRV.ext hW)
      rw [abs_no h0 r1 r2] at h
      exact h)
    have HSP : Hid (∀ r k : Int, 1 ≤ r → r ≤ 3 → ValT 24 #[.int .i64 r, .agg #[.int .i64 n, .slice a' vs.length c'], .int .i64 k] W0 (.bool false)) := hide (fun r k r1 r2 W hW => by
      have h := spl_impl W r n a' c' vs k HCAP.out (hRV.ext hW)
      rw [spl_no h0 r1 r2] at h
      exact h)
    have HMM : Hid (∀ r : Int, (r = 1 ∨ r = 6 ∨ r = 7 ∨ r = 10 ∨ r = 4 ∨ r = 13) → ValT 25 #[.int .i64 r, .agg #[.int .i64 n, .slice a' vs.length c']] W0 (.bool false)) := hide (fun r hr W hW => by
      have h := mism_impl W r n a' c' vs (hRV.ext hW)
      rw [mism_no h0 hr] at h
      exact h)
    have HRV : Hid (ValT 26 #[.int .i64 2, .agg #[.int .i64 n, .slice a' vs.length c']] W0 (.bool false)) := hide (fun W hW => by
      have h := revF_impl W 2 n a' c' vs (hRV.ext hW)
      rw [rev_no h0] at h
      exact h)
    clear HV HCAP hRV h0 H0 HS
    have Q0 := q0
    have Q1 := q1
    focus
      go_wp2_with fail
      have hB1 := BlkF.new W0 #[.int .i64 4, .int .i64 5, .int .i64 9, .int .i64 11, .int .i64 12, .int .i64 13] 3
      rw [HSZ.out] at hB1
      have hE1 := Ext.new W0 (.cells #[.int .i64 4, .int .i64 5, .int .i64 9, .int .i64 11, .int .i64 12, .int .i64 13] 3)
      generalize W0.alloc (.cells #[.int .i64 4, .int .i64 5, .int .i64 9, .int .i64 11, .int .i64 12, .int .i64 13] 3) = W1 at hB1 hE1 ⊢
      have HL1 : Hid (RdI W1 (some ⟨w2.heap.size + 1, 0, none⟩) [4, 5, 9, 11, 12, 13]) := hide (hB1.rdL (by simp) (fun j x hx => by
        have hj := lt_of_at hx
        simp at hj
        have : j = 0 ∨ j = 1 ∨ j = 2 ∨ j = 3 ∨ j = 4 ∨ j = 5 := by omega
        rcases this with rfl | rfl | rfl | rfl | rfl | rfl <;> (simp at hx; subst hx; rfl)))
      have P0 := hE1.keep Q0
      have P1 := hE1.keep Q1
      have HE1 := hide hE1
      clear hB1 hE1
      go_loopw [6, 23] (fun _ i wr => ∃ k : Nat, k ≤ 6 ∧ i = .int .i64 k ∧ Ext W1 wr) (fun _ i _ => 6 - (intOf i).toNat)
      case atStart => exact ⟨0, by omega, rfl, Ext.refl _⟩
      case round =>
        obtain ⟨k, hk, rfl, hwr⟩ := hrel
        have q0 := hwr.keep P0
        have q1 := hwr.keep P1
        have hEr := HE1.out.trans hwr
        by_cases hlt : k < 6
        · obtain ⟨r, hr⟩ := at_of_lt (xs := [(4 : Int), 5, 9, 11, 12, 13]) (k := k) (by simpa using hlt)
          have hm := List.mem_of_getElem? hr
          have hm' : r = 4 ∨ r = 5 ∨ r = 9 ∨ r = 11 ∨ r = 12 ∨ r = 13 := by simpa using hm
          obtain ⟨b, hb0, HW1⟩ := HWB.out r (by omega) (by omega)
          have HW1 := hide HW1
          have HM1 := hide (HMC.out r hm')
          obtain ⟨b4, o4, e4, d4⟩ := (HL1.out.ext hwr).at_ hr
          injection e4 with e4
          injection e4 with e4 e5
          subst e4
          subst e5
          rw [Nat.zero_add] at d4
          have hk1 : k + 1 ≤ 6 := hlt
          have g1 : ¬ b < 0 := by omega
          clear hr hm hm' hb0
          go_wp2_with fail
          refine (HM1.out.at _ hEr).mono ?_
          rintro e w5 ⟨rfl, hw5⟩
          have q0 := hw5.keep q0
          have q1 := hw5.keep q1
          go_wp2_with fail
          refine (HW1.out.at _ (hEr.trans hw5)).mono ?_
          rintro e w6 ⟨rfl, hw6⟩
          go_wp2
          exact ⟨⟨k + 1, hk1, by go_num, (hwr.trans hw5).trans hw6⟩, by simp [intOf]; omega⟩
        · have hk6 : k = 6 := by omega
          subst hk6
          rw [show ((6 : Nat) : Int) = 6 from rfl]
          obtain ⟨wo, hwo⟩ : ∃ wo : World, wo = wr := ⟨_, rfl⟩
          subst hwo
          clear hlt hk
          have HE2 := hide hEr
          clear hwr hEr HMC
          focus
            go_wp2_with fail
            have hB1 := BlkF.new wo #[.int .i64 1, .int .i64 2, .int .i64 3] 3
            have hN := Ext.new wo (.cells #[.int .i64 1, .int .i64 2, .int .i64 3] 3)
            have HL2 : Hid (RdI (wo.alloc (.cells #[.int .i64 1, .int .i64 2, .int .i64 3] 3)) (some ⟨wo.heap.size, 0, none⟩) [1, 2, 3]) := hide (hB1.rdL (by simp) (fun j x hx => by
              have hj := lt_of_at hx
              simp at hj
              have : j = 0 ∨ j = 1 ∨ j = 2 := by omega
              rcases this with rfl | rfl | rfl <;> (simp at hx; subst hx; rfl)))
            obtain ⟨g2, hg2⟩ : ∃ g2 : Nat, g2 = wo.heap.size := ⟨_, rfl⟩
            rw [← hg2] at HL2 ⊢
            have P0 := hN.keep q0
            have P1 := hN.keep q1
            have HE3 := hide (HE2.out.trans hN)
            generalize wo.alloc (.cells #[.int .i64 1, .int .i64 2, .int .i64 3] 3) = W2 at HL2 P0 P1 HE3 ⊢
            clear hB1 hN hg2 q0 q1
            go_loopw [8, 39] (fun _ i wr => ∃ k : Nat, k ≤ 3 ∧ i = .int .i64 k ∧ Ext W2 wr) (fun _ i _ => 3 - (intOf i).toNat)
            case atStart => exact ⟨0, by omega, rfl, Ext.refl _⟩
            case round =>
              obtain ⟨k, hk, rfl, hwr⟩ := hrel
              have q0 := hwr.keep P0
              have q1 := hwr.keep P1
              have hEr := HE3.out.trans hwr
              by_cases hlt : k < 3
              · obtain ⟨r, hr⟩ := at_of_lt (xs := [(1 : Int), 2, 3]) (k := k) (by simpa using hlt)
                have hm := List.mem_of_getElem? hr
                have hm' : r = 1 ∨ r = 2 ∨ r = 3 := by simpa using hm
                obtain ⟨b, hb0, HW1⟩ := HWB.out r (by omega) (by omega)
                have HW1 := hide HW1
                have HM1 := hide (HMO.out r (by omega) (by omega))
                have HA1 := hide (HAB.out r (by omega) (by omega))
                have HS1 := hide (fun z => HSP.out r z (by omega) (by omega))
                obtain ⟨b4, o4, e4, d4⟩ := (HL2.out.ext hwr).at_ hr
                injection e4 with e4
                injection e4 with e4 e5
                subst e4
                subst e5
                rw [Nat.zero_add] at d4
                have hk1 : k + 1 ≤ 3 := hlt
                have g1 : ¬ b < 0 := by omega
                have hwE := hw.trans hEr
                clear hr hm hm' hb0
                go_wp2_with fail
                refine wp_region_X (by kernel_rfl) (by kernel_rfl) ?_
                repeat' (refine wpX_stepQ (fun K hK => ?_)
                         go_simp
                         try (rw [if_neg (by intro h; simp [undef] at h)])
                         try split
                         all_goals
                           first
                           | (refine hK _ ?_
                              clear hK K)
                           | (apply Exists.intro
                              refine ⟨fun wq hwq => ?_, hK _ ?_⟩
                              · have hcq := hwq.cellS
                                go_simp
                                first
                                | exact ⟨Ext.refl _, rfl⟩
                                | exact ⟨Ext.refl _, HM1.out.at _ (hEr.trans hwq)⟩
                              clear hK K))
                repeat' (refine wpX_stepQ (fun K hK => ?_)
                         go_simp
                         try (rw [if_neg (by intro h; simp [undef] at h)])
                         try split
                         all_goals
                           first
                           | (refine hK _ ?_
                              clear hK K)
                           | (apply Exists.intro
                              refine ⟨fun wq hwq => ?_, hK _ ?_⟩
                              · have hcq := hwq.cellS
                                go_simp
                                first
                                | exact ⟨Ext.refl _, rfl⟩
                                | exact ⟨Ext.refl _, HA1.out.at _ (hEr.trans hwq)⟩
                              clear hK K))
                refine wpX_stepS rfl (by kernel_rfl) (fun K hK wq hwq => ?_)
                go_simp
                refine (HNUM.out _ 60 (by omega) (hwE.trans hwq)).mono ?_
                rintro e w5 ⟨y, rfl, hy, hw5⟩
                refine ⟨hw5, hK _ _ ?_⟩
                clear hK K
                have hE5 := hwq.trans hw5
                have q0 := hE5.keep q0
                have q1 := hE5.keep q1
                clear hwq hw5
                repeat' (refine wpX_stepQ (fun K hK => ?_)
                         go_simp
                         try (rw [if_neg (by intro h; simp [undef] at h)])
                         try split
                         all_goals
                           first
                           | (refine hK _ ?_
                              clear hK K)
                           | (apply Exists.intro
                              refine ⟨fun wq hwq => ?_, hK _ ?_⟩
                              · have hcq := hwq.cellS
                                go_simp
                                first
                                | exact ⟨Ext.refl _, rfl⟩
                                | exact ⟨Ext.refl _, (HS1.out _).at _ (hEr.trans (hE5.trans hwq))⟩
                              clear hK K))
                repeat' (refine wpX_stepQ (fun K hK => ?_)
                         go_simp
                         try (rw [if_neg (by intro h; simp [undef] at h)])
                         try split
                         all_goals
                           first
                           | (refine hK _ ?_
                              clear hK K)
                           | (apply Exists.intro
                              refine ⟨fun wq hwq => ?_, hK _ ?_⟩
                              · have hcq := hwq.cellS
                                go_simp
                                first
                                | exact ⟨Ext.refl _, rfl⟩
                                | exact ⟨Ext.refl _, HW1.out.at _ (hEr.trans (hE5.trans hwq))⟩
                              clear hK K))
                refine wpX_nil (fun wz hwz => ?_)
                go_wp2
                exact ⟨⟨k + 1, hk1, by go_num, (hwr.trans hE5).trans hwz⟩, by simp [intOf]; omega⟩
              · have hk3 : k = 3 := by omega
                subst hk3
                rw [show ((3 : Nat) : Int) = 3 from rfl]
                obtain ⟨wo2, hwo2⟩ : ∃ wo : World, wo = wr := ⟨_, rfl⟩
                subst hwo2
                clear hlt hk
                have HE4 := hide hEr
                clear hwr hEr HWB HAB HSP
                focus
                  go_wp2_with fail
                  have hB1 := BlkF.new wo2 #[.int .i64 1, .int .i64 6, .int .i64 7, .int .i64 10, .int .i64 4, .int .i64 13] 3
                  have hN := Ext.new wo2 (.cells #[.int .i64 1, .int .i64 6, .int .i64 7, .int .i64 10, .int .i64 4, .int .i64 13] 3)
                  have HL3 : Hid (RdI (wo2.alloc (.cells #[.int .i64 1, .int .i64 6, .int .i64 7, .int .i64 10, .int .i64 4, .int .i64 13] 3)) (some ⟨wo2.heap.size, 0, none⟩) [1, 6, 7, 10, 4, 13]) := hide (hB1.rdL (by simp) (fun j x hx => by
                    have hj := lt_of_at hx
                    simp at hj
                    have : j = 0 ∨ j = 1 ∨ j = 2 ∨ j = 3 ∨ j = 4 ∨ j = 5 := by omega
                    rcases this with rfl | rfl | rfl | rfl | rfl | rfl <;> (simp at hx; subst hx; rfl)))
                  obtain ⟨g3, hg3⟩ : ∃ g3 : Nat, g3 = wo2.heap.size := ⟨_, rfl⟩
                  rw [← hg3] at HL3 ⊢
                  have P0 := hN.keep q0
                  have P1 := hN.keep q1
                  have HE5 := hide (HE4.out.trans hN)
                  generalize wo2.alloc (.cells #[.int .i64 1, .int .i64 6, .int .i64 7, .int .i64 10, .int .i64 4, .int .i64 13] 3) = W3 at HL3 P0 P1 HE5 ⊢
                  clear hB1 hN hg3 q0 q1
                  go_loopw [10, 71] (fun _ i wr => ∃ k : Nat, k ≤ 6 ∧ i = .int .i64 k ∧ Ext W3 wr) (fun _ i _ => 6 - (intOf i).toNat)
                  case atStart => exact ⟨0, by omega, rfl, Ext.refl _⟩
                  case round =>
                    obtain ⟨k, hk, rfl, hwr⟩ := hrel
                    have q0 := hwr.keep P0
                    have q1 := hwr.keep P1
                    have hEr := HE5.out.trans hwr
                    by_cases hlt : k < 6
                    · obtain ⟨r, hr⟩ := at_of_lt (xs := [(1 : Int), 6, 7, 10, 4, 13]) (k := k) (by simpa using hlt)
                      have hm := List.mem_of_getElem? hr
                      have hm' : r = 1 ∨ r = 6 ∨ r = 7 ∨ r = 10 ∨ r = 4 ∨ r = 13 := by simpa using hm
                      have HM1 := hide (HMM.out r hm')
                      obtain ⟨b4, o4, e4, d4⟩ := (HL3.out.ext hwr).at_ hr
                      injection e4 with e4
                      injection e4 with e4 e5
                      subst e4
                      subst e5
                      rw [Nat.zero_add] at d4
                      have hk1 : k + 1 ≤ 6 := hlt
                      clear hr hm hm'
                      go_wp2_with fail
                      refine (HM1.out.at _ hEr).mono ?_
                      rintro e w5 ⟨rfl, hw5⟩
                      go_wp2
                      exact ⟨⟨k + 1, hk1, by go_num, hwr.trans hw5⟩, by simp [intOf]; omega⟩
                    · have hk6 : k = 6 := by omega
                      subst hk6
                      clear hlt hk
                      have HM1 := hide (HMO.out 4 (by decide) (by decide))
                      have HM2 := hide (HMO.out 5 (by decide) (by decide))
                      have hwE := hw
                      clear hwr
                      by_cases hn1 : n = 1
                      · have t1 : ((n : Int) == 1) = true := by rw [beq_iff_eq]; omega
                        clear hn1
                        go_wp2_with fail
                        refine (HM1.out.at _ hEr).mono ?_
                        rintro e w5 ⟨rfl, hw5⟩
                        have q0 := hw5.keep q0
                        have q1 := hw5.keep q1
                        have hEr := hEr.trans hw5
                        go_wp2_with fail
                        refine (HM2.out.at _ hEr).mono ?_
                        rintro e w6 ⟨rfl, hw6⟩
                        have hEr := hEr.trans hw6
                        go_wp2
                        go_ret
                        exact ⟨rfl, hwE.trans hEr⟩
                      · have t1 : ((n : Int) == 1) = false := by rw [beq_eq_false_iff_ne]; omega
                        clear hn1
                        go_wp2_with fail
                        refine (HM1.out.at _ hEr).mono ?_
                        rintro e w5 ⟨rfl, hw5⟩
                        have q0 := hw5.keep q0
                        have q1 := hw5.keep q1
                        have hEr := hEr.trans hw5
                        go_wp2_with fail
                        refine (HM2.out.at _ hEr).mono ?_
                        rintro e w6 ⟨rfl, hw6⟩
                        have q0 := hw6.keep q0
                        have q1 := hw6.keep q1
                        have hEr := hEr.trans hw6
                        go_wp2_with fail
                        refine (HRV.out.at _ hEr).mono ?_
                        rintro e w7 ⟨rfl, hw7⟩
                        go_wp2
                        go_ret
                        exact ⟨rfl, hwE.trans (hEr.trans hw7)⟩
  · go_enter Tryz.func6, Tryz.ntmps6
    go_wp2
    go_ret
    exact ⟨rfl, (by repeat (first | exact Ext.refl _ | assumption | refine Ext.alloc ?_ _ | refine Ext.drew ?_ | refine Ext.trans ?_ (by assumption)))⟩

section
open Go.ChangeShapes Go.WideShapes Go.ChangeAt Go.RowKit Go.Joins Go.Deep
set_option maxRecDepth 100000 in
theorem fnTop_lifted (os : Os) (started : os.Started) (H : Type) (enc : TypeId × Value → H) :
    ReturnsInHanded {} Tryz.checked os 6 .any (Rows.fnTopSpec.pre6 enc Tryz.prog Tryz.f6 Rows.fnTopRow.domain false) (Rows.fnTopSpec.post enc Tryz.prog Tryz.f6 false true false false) := by
  refine returnsInHanded_of_change (C := Tryz.checked) own started (by kernel_rfl) Tryz.func6
    (ChangeSpec.witness6 (enc := enc) (C := Tryz.checked) false ⟨#[], #[.slice Option.none 0 0], []⟩ 8 (by kernel_rfl) (by kernel_rfl) (by kernel_rfl) (by kernel_rfl)) ?_
  intro W base args ds gs before hval0 hW hcnd _
  have hval : ∀ (j : Nat) t v, Tryz.f6.params[j]? = some t → args[j]? = some v → Value.okWide Tryz.prog W .any base t v := hval0
  have hW' := hW
  obtain ⟨p, q, hA0, hV, rfl, hfz, hnd⟩ := hW
  have hA : DataW.TrodAll enc Tryz.prog W 0 (fun _ => true) true Tryz.f6.params.toList args.toList ds p := hA0
  rw [Tryz.params6] at hA hval
  obtain ⟨v0, vs0, d0, ds0, p0, q0, hargs, rfl, rfl, h0, r0⟩ := trodAll_cons hA
  obtain ⟨rfl, rfl, rfl⟩ := trodAll_nil r0
  obtain rfl : args = #[v0] := by cases args; simp_all
  obtain ⟨rfl, rfl⟩ := trodVars_none hV
  have k0 := h0
  have lt0 : ∀ x ∈ p0, x.block < W.heap.size := by obtain ⟨m, hm⟩ := k0; exact DataW.trod_lt m _ _ _ hm
  obtain ⟨a0, bs0, c0, rfl, hR0, hl0⟩ := openY (hval 0 33 v0 rfl rfl) h0
  clear hA0 hval0
  refine (tps_law W a0 c0 bs0 hR0 hl0).mono fun e W' ⟨he, bel⟩ => ?_
  subst he
  exact ⟨_, rfl, _, _, _, [], _, [], hW', trodAll_mk1 (shut_bool Tryz.underlying4 _), (trodAll_cons_mk (Below.trod laidOut (by kernel_rfl) (of_decide_eq_true (by kernel_rfl)) k0 bel lt0) trodAll_mk0), rfl, bel.frame _, fun h => by cases h⟩
end

end Go.Proofs.YtilcdnkkabmbfaaGreat
