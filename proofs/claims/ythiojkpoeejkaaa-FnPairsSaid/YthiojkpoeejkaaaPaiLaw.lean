/- FnPairs answers true at every input. -/
import Derived.Test.YthiojkpoeejkaaaCp12
import Derived.Test.YthiojkpoeejkaaaCp11
import Derived.Test.YthiojkpoeejkaaaCp19
import Derived.Test.YthiojkpoeejkaaaCp24
import Derived.Test.YthiojkpoeejkaaaCp2
namespace Go.Proofs.Ythiojkpoeejkaaa
open Go.RowKit

set_option maxRecDepth 100000 in
set_option maxHeartbeats 8000000 in
theorem pai_law (w : World) (a : Option Addr) (c : Nat) (bs : List Int) (hR : RdY w a bs) (_ : bs.length ≤ maxLen) :
    Calls Try.prog 6 #[.slice a bs.length c] w fun e w' => e = .returned (.bool true) ∧ Ext w w' := by
  by_cases hb : bs.length ≤ 1048576
  · go_enter Try.func6, Try.ntmps6
    go_wp2_with fail
    refine (numY_spec _ a c 0 bs (hR.ext (by repeat (first | exact Ext.refl _ | assumption | refine Ext.alloc ?_ _ | refine Ext.drew ?_ | refine Ext.trans ?_ (by assumption)))) hb (by omega)).mono ?_
    rintro e w1 ⟨x, rfl, hx, hw1⟩
    go_wp2_with fail
    obtain ⟨n, hn, n1, n5⟩ : ∃ n : Nat, 1 + (x : Int) % 5 = n ∧ 1 ≤ n ∧ n ≤ 5 := ⟨(1 + (x : Int) % 5).toNat, by omega, by omega, by omega⟩
    rw [hn]
    clear hn hx
    refine (mkprofC_spec _ a c 2 n bs (hR.ext (by repeat (first | exact Ext.refl _ | assumption | refine Ext.alloc ?_ _ | refine Ext.drew ?_ | refine Ext.trans ?_ (by assumption)))) hb (by omega) n1 (by omega)).mono ?_
    rintro e w2 ⟨v, rfl, a', vs, c', rfl, hRV, ⟨h0, v1, v5, v6⟩, hw2, hcap⟩
    have q0 := new0 w2 (.int .i64 n) [.slice a' vs.length c'] 47
    have q1 := new1 w2 (.int .i64 n) (.slice a' vs.length c') [] 47
    have hE := Ext.new w2 (.cells #[.int .i64 n, .slice a' vs.length c'] 47)
    go_wp2_with fail
    have hw := (Ext.trans hw1 hw2).trans hE
    have hRV := hRV.ext hE
    have HV := hide (⟨v1, v5, v6⟩ : 1 ≤ vs.length ∧ vs.length ≤ 5 ∧ ∀ x ∈ vs, x.2 ≤ 6)
    have HCAP := hide hcap
    have HNUM : Hid (∀ W' (k : Nat), k ≤ 1000 → Ext w W' → Calls Try.prog 11 #[.slice a bs.length c, .int .i64 k] W' fun e w' => ∃ x : Nat, e = .returned (.int .i64 x) ∧ x ≤ 65536 ∧ Ext W' w') := hide (fun W' k hk hW' => (numY_spec W' a c k bs (hR.ext hW') hb hk).mono fun e w' ⟨x, h1, h2, h3⟩ => ⟨x, h1, by omega, h3⟩)
    clear hR hb hw1 hw2 hE v1 v5 v6 hcap
    generalize w2.alloc (.cells #[.int .i64 n, .slice a' vs.length c'] 47) = W0 at hw hRV q0 q1 ⊢
    have H0 := hide h0
    have HS := hide (prof_small h0)
    refine (winner_impl _ n a' c' vs hRV).mono ?_
    rintro e w3 ⟨rfl, hw3⟩
    have q0 := hw3.keep q0
    have q1 := hw3.keep q1
    go_wp2_with fail
    refine (top_impl _ n a' c' vs (hRV.ext hw3)).mono ?_
    rintro e w4 ⟨v, rfl, hv, hw4⟩
    have q0 := hw4.keep q0
    have q1 := hw4.keep q1
    obtain ⟨at', ct, rfl, _, _, hRt, _⟩ := hv.val
    clear hv
    have hE4 := hw3.trans hw4
    clear hw3 hw4
    go_wp2_with fail
    refine (unc_impl _ n a' c' vs (hRV.ext hE4)).mono ?_
    rintro e w5 ⟨v, rfl, hv, hw5⟩
    have q0 := hw5.keep q0
    have q1 := hw5.keep q1
    obtain ⟨au, cu, rfl, _, _, hRu, _⟩ := hv.val
    clear hv
    have hE5 := hE4.trans hw5
    have hRt := hRt.ext hw5
    clear hE4 hw5
    go_wp2_with fail
    refine (cope_impl _ n a' c' vs (hRV.ext hE5)).mono ?_
    rintro e w6 ⟨v, rfl, hv, hw6⟩
    have q0 := hw6.keep q0
    have q1 := hw6.keep q1
    obtain ⟨ac, cc, rfl, _, hRc, _⟩ := hv.fr
    rw [cope_eq h0] at hRc
    rw [cope_eq h0, rowL_len]
    clear hv
    have hE6 := hE5.trans hw6
    have hRt := hRt.ext hw6
    have hRu := hRu.ext hw6
    clear hE5 hw6
    go_wp2_with fail
    refine (maxi_impl _ n a' c' vs (hRV.ext hE6)).mono ?_
    rintro e w7 ⟨v, rfl, hv, hw7⟩
    have q0 := hw7.keep q0
    have q1 := hw7.keep q1
    obtain ⟨ax, cx, rfl, _, _, _⟩ := hv.fr
    rw [maxi_eq h0, rowL_len]
    clear hv
    have hE7 := hE6.trans hw7
    have hRt := hRt.ext hw7
    have hRu := hRu.ext hw7
    have hRc := hRc.ext hw7
    clear hE6 hw7
    have hRV := hRV.ext hE7
    have hw := hw.trans hE7
    clear hE7
    obtain ⟨wb, hwb⟩ : ∃ wb : World, wb = w7 := ⟨_, rfl⟩
    subst hwb
    have hF := pai_f h0
    have HSUM : Hid (ValC 39 #[.slice ac n cc] wb (.int .i64 0)) := hide (fun W hW => by
      have := sum_law W ac n cc (rowL n (copeV n vs)) (rowL_len _ _).symm (hRc.ext hW) (by rw [rowL_len]; omega) (cope_bd n5 vs)
      rw [rowL_sum, cope_sum] at this
      exact this)
    have HHT : Hid (∀ x : Int, ValC 17 #[.slice at' (topO n vs).length ct, .int .i64 x] wb (.bool (hasI (topO n vs) x))) := hide (fun x W hW => has_law W at' _ ct (topO n vs) x rfl (hRt.ext hW) (by have := topO_len n vs; omega))
    have HHU : Hid (∀ x : Int, ValC 17 #[.slice au (uncO n vs).length cu, .int .i64 x] wb (.bool (hasI (uncO n vs) x))) := hide (fun x W hW => has_law W au _ cu (uncO n vs) x rfl (hRu.ext hW) (by have := uncO_len n vs; omega))
    have HMG : Hid (∀ x y : Nat, x < n → y < n → ValC 32 #[.agg #[.int .i64 n, .slice a' vs.length c'], .int .i64 x, .int .i64 y] wb (.int .i64 (marginV vs x y))) := hide (fun x y hx hy W hW => by
      have h := margin_impl' W n a' c' vs x y (hRV.ext hW)
      rw [margO_eq h0 hx hy] at h
      exact h)
    have HCV : Hid (∀ x y : Nat, x < n → y < n → ValC 54 #[.agg #[.int .i64 n, .slice a' vs.length c'], .int .i64 x, .int .i64 y] wb (.bool (coversV n vs x y))) := hide (fun x y hx hy W hW => by
      have h := cover_impl W n a' c' vs x y (hRV.ext hW)
      rw [coverO_eq h0 hx hy] at h
      exact h)
    have HUB : Hid (LstC 55 #[.agg #[.int .i64 n, .slice a' vs.length c']] wb (unbO n vs)) := hide (fun W hW => (unb_impl W n a' c' vs (hRV.ext hW)).mono fun e w' ⟨v, h1, h2, h3⟩ => by
      obtain ⟨ar, cr, hv, hc, _, hRr, _⟩ := h2.val
      exact ⟨ar, cr, by rw [h1, hv], hRr, hc, h3⟩)
    have HMJ : Hid (∀ W, Ext wb W → Calls Try.prog 56 #[.agg #[.int .i64 n, .slice a' vs.length c']] W fun e w' => ∃ ar cr, e = .returned (.tuple #[.slice ar (mjL n vs).length cr, .bool (mjB n vs)]) ∧ RdI w' ar (mjL n vs) ∧ Ext W w') := hide (fun W hW => (mj_impl W n a' c' vs (hRV.ext hW)).mono fun e w' ⟨v, h1, h2, h3⟩ => by
      obtain ⟨ar, cr, hv, hc, _, hRr, _⟩ := h2.val
      exact ⟨ar, cr, by rw [h1, hv], hRr, h3⟩)
    have HTR : Hid (ValC 57 #[.agg #[.int .i64 n, .slice a' vs.length c']] wb (.bool (transO n vs))) := hide (fun W hW => trans_impl W n a' c' vs (hRV.ext hW))
    have HLO : Hid (ValC 44 #[.agg #[.int .i64 n, .slice a' vs.length c']] wb (.int .i64 (loserO n vs))) := hide (fun W hW => loser_impl W n a' c' vs (hRV.ext hW))
    have HM1 : Hid (mjB n vs = true → rkOk n (mjL n vs) = true ∧ (mjL n vs)[0]? = some (winnerO n vs) ∧ transO n vs = true ∧ (mjL n vs)[n - 1]? = some (loserO n vs)) := hide (fun h => ⟨(mj_f h0 h).rk, (mj_f h0 h).fst, (mj_f h0 h).tr, (mj_f h0 h).lst⟩)
    have HM2 : Hid (n = 1 → mjB n vs = true) := hide (fun h => by
      subst h
      exact mj_one h0)
    have hl1 := hF.top
    have hl2 := hF.unc
    have hwin := hF.win
    have HSB := hide hF.sub
    have HNB := hide hF.unb
    have HDM := hide hF.dom
    have HME := hide hF.mem
    have HCO := hide hF.cov
    have hl3 := topO_len n vs
    have hl4 := uncO_len n vs
    have HUL := hide (unbO_len n vs)
    have Q0 := q0
    have Q1 := q1
    clear hF HV HCAP HNUM hRV h0
    generalize topO n vs = Tl at *
    generalize uncO n vs = Ul at *
    generalize unbO n vs = Bl at *
    have t1 : ((Tl.length : Int) == 0) = false := by rw [beq_eq_false_iff_ne]; omega
    have t2 : ((Ul.length : Int) == 0) = false := by rw [beq_eq_false_iff_ne]; omega
    rcases hwin with ⟨w0, hw0, ew, eT, ec⟩ | ⟨ew, eT⟩
    · have hT0 : Tl[0]? = some (w0 : Int) := by rw [eT]; rfl
      have hC0 := rowL_at (f := copeV n vs) hw0
      rw [ec] at hC0
      have t3 : ((Tl.length : Int) == 1) = true := by rw [eT]; rfl
      have t4 : (0 : Int) ≤ (w0 : Int) := by omega
      have t5 : decide (n ≤ w0) = false := decide_eq_false (by omega)
      have y1 : wrap64 ((n : Int) - 1) = (n : Int) - 1 := IntWalk.wrap64_in _ (by omega)
      obtain ⟨bt, ot, rfl, dt⟩ := hRt.at_ hT0
      rw [Nat.add_zero] at dt
      obtain ⟨bc, oc, rfl, dc⟩ := hRc.at_ hC0
      have hw0n := hw0
      rw [ew] at HM1 ⊢
      clear eT ec hT0 hC0 ew
      as_aux_lemma =>
        go_wp2_with fail
        refine (HSUM.out _ (Ext.refl _)).mono ?_
        rintro e w8 ⟨rfl, hw8⟩
        have dt := hw8.keep dt
        have dc := hw8.keep dc
        go_wp2_with fail
        go_loopw [11, 97] (fun _ i wr => ∃ k : Nat, k ≤ Ul.length ∧ i = .int .i64 k ∧ Ext wb wr) (fun _ i _ => Ul.length - (intOf i).toNat)
        case atStart => exact ⟨0, Nat.zero_le _, rfl, hw8⟩
        case round =>
          obtain ⟨k, hk, rfl, hwr⟩ := hrel
          clear hw8
          by_cases hlt : k < Ul.length
          · obtain ⟨x, hx⟩ := at_of_lt hlt
            have hm := HSB.out x (List.mem_of_getElem? hx)
            have HH := hide (HHT.out x _ hwr)
            rw [hasI_iff.2 hm] at HH
            obtain ⟨b4, o4, rfl, d4⟩ := (hRu.ext hwr).at_ hx
            have hk1 : k + 1 ≤ Ul.length := by omega
            clear hm hx
            go_wp2_with fail
            refine HH.out.mono ?_
            rintro e w9 ⟨rfl, hw9⟩
            go_wp2
            exact ⟨⟨k + 1, hk1, by go_num, hwr.trans hw9⟩, by simp [intOf]; omega⟩
          · obtain ⟨wo, hwo⟩ : ∃ wo : World, wo = wr := ⟨_, rfl⟩
            subst hwo
            have HEo := hide hwr
            have q0 := hwr.keep Q0
            have q1 := hwr.keep Q1
            clear hwr
            as_aux_lemma =>
              go_wp2_with fail
              go_loopw [12, 14, 111, 112, 113] (fun i _ _ _ _ wr => ∃ k : Nat, k ≤ n ∧ i = .int .i64 k ∧ Ext wo wr) (fun i _ _ _ _ _ => n - (intOf i).toNat)
              case atStart => exact ⟨0, Nat.zero_le _, rfl, Ext.refl _⟩
              case round =>
                obtain ⟨k, hk, rfl, hwr⟩ := hrel
                have hEr := HEo.out.trans hwr
                by_cases hlt : k < n
                · have hk1 : k + 1 ≤ n := by omega
                  have HEk := hide hEr
                  have q0 := hwr.keep q0
                  have q1 := hwr.keep q1
                  have R0 := q0
                  have R1 := q1
                  have HWO := hide hwr
                  obtain ⟨wi, hwi⟩ : ∃ wi : World, wi = wr := ⟨_, rfl⟩
                  subst hwi
                  clear hEr hwr
                  go_wp2_with fail
                  go_loopw [14, 113] (fun _ j wr => ∃ m : Nat, m ≤ Tl.length ∧ j = .int .i64 m ∧ Ext wi wr) (fun _ j _ => Tl.length - (intOf j).toNat)
                  case atStart => exact ⟨0, Nat.zero_le _, rfl, Ext.refl _⟩
                  case round =>
                    obtain ⟨m, hm, rfl, hwr⟩ := hrel
                    have q0 := hwr.keep R0
                    have q1 := hwr.keep R1
                    have hEr := HEk.out.trans hwr
                    by_cases hml : m < Tl.length
                    · obtain ⟨x, hx⟩ := at_of_lt hml
                      obtain ⟨x0, x1⟩ := HME.out x (List.mem_of_getElem? hx)
                      obtain ⟨y, rfl⟩ : ∃ y : Nat, x = y := ⟨x.toNat, by omega⟩
                      have hy : y < n := by omega
                      have hm1 : m + 1 ≤ Tl.length := by omega
                      have HK := hide (HHT.out (k : Int))
                      have HG := hide (HMG.out y k hy hlt)
                      have HC := hide (HCV.out k y hlt hy)
                      have HU := hide (HHU.out (y : Int))
                      have hdm := HDM.out k hlt
                      have hco := HCO.out k hlt (y : Int)
                      have hxm := List.mem_of_getElem? hx
                      obtain ⟨b4, o4, e4, d4⟩ := (hRt.ext hEr).at_ hx
                      injection e4 with e4
                      injection e4 with e4 e5
                      subst e4
                      subst e5
                      have hG0 : hasI Tl (k : Int) = false → 0 < marginV vs (y : Int) (k : Int) := fun h => by
                        have h1 := hdm (fun hm => by rw [hasI_iff.2 hm] at h; cases h) (y : Int) hxm
                        unfold beatsV at h1
                        rw [decide_eq_true_eq] at h1
                        unfold marginV
                        omega
                      have hG1 : coversV n vs (k : Int) (y : Int) = true → hasI Ul (y : Int) = false := fun h => by
                        cases h2 : hasI Ul (y : Int)
                        · rfl
                        · rw [hco (hasI_iff.1 h2)] at h
                          cases h
                      generalize marginV vs (y : Int) (k : Int) = G at HG hG0
                      generalize coversV n vs (k : Int) (y : Int) = CB at HC hG1
                      generalize hasI Ul (y : Int) = UB at HU hG1
                      generalize hasI Tl (k : Int) = TB at HK hG0
                      clear hxm hco hdm hx x0 x1
                      cases TB
                      · have g1 := hG0 rfl
                        have g2 : ¬ G ≤ 0 := by omega
                        clear hG0 g1
                        go_wp2_with fail
                        refine (HK.out.at _ hEr).mono ?_
                        rintro e w9 ⟨rfl, hw9⟩
                        have q0 := hw9.keep q0
                        have q1 := hw9.keep q1
                        have hEr := hEr.trans hw9
                        have hwr := hwr.trans hw9
                        clear hw9
                        go_wp2_with fail
                        refine (HG.out.at _ hEr).mono ?_
                        rintro e w10 ⟨rfl, hw10⟩
                        have q0 := hw10.keep q0
                        have q1 := hw10.keep q1
                        have hEr := hEr.trans hw10
                        have hwr := hwr.trans hw10
                        clear hw10
                        cases CB
                        · go_wp2_with fail
                          refine (HC.out.at _ hEr).mono ?_
                          rintro e w11 ⟨rfl, hw11⟩
                          go_wp2
                          exact ⟨⟨m + 1, hm1, by go_num, hwr.trans hw11⟩, by simp [intOf]; omega⟩
                        · rw [hG1 rfl] at HU
                          clear hG1
                          go_wp2_with fail
                          refine (HC.out.at _ hEr).mono ?_
                          rintro e w11 ⟨rfl, hw11⟩
                          have hEr := hEr.trans hw11
                          go_wp2_with fail
                          refine (HU.out.at _ hEr).mono ?_
                          rintro e w12 ⟨rfl, hw12⟩
                          go_wp2
                          exact ⟨⟨m + 1, hm1, by go_num, (hwr.trans hw11).trans hw12⟩, by simp [intOf]; omega⟩
                      · clear hG0
                        go_wp2_with fail
                        refine (HK.out.at _ hEr).mono ?_
                        rintro e w9 ⟨rfl, hw9⟩
                        have q0 := hw9.keep q0
                        have q1 := hw9.keep q1
                        have hEr := hEr.trans hw9
                        have hwr := hwr.trans hw9
                        clear hw9
                        cases CB
                        · go_wp2_with fail
                          refine (HC.out.at _ hEr).mono ?_
                          rintro e w11 ⟨rfl, hw11⟩
                          go_wp2
                          exact ⟨⟨m + 1, hm1, by go_num, hwr.trans hw11⟩, by simp [intOf]; omega⟩
                        · rw [hG1 rfl] at HU
                          clear hG1
                          go_wp2_with fail
                          refine (HC.out.at _ hEr).mono ?_
                          rintro e w11 ⟨rfl, hw11⟩
                          have hEr := hEr.trans hw11
                          go_wp2_with fail
                          refine (HU.out.at _ hEr).mono ?_
                          rintro e w12 ⟨rfl, hw12⟩
                          go_wp2
                          exact ⟨⟨m + 1, hm1, by go_num, (hwr.trans hw11).trans hw12⟩, by simp [intOf]; omega⟩
                    · 
                      go_wp2_with fail
                      refine (HUB.out.at _ hEr).mono ?_
                      rintro e w9 ⟨ar, cr, rfl, hRr, hcr, hw9⟩
                      have hEr := hEr.trans hw9
                      have hwr := hwr.trans hw9
                      have HBK : Hid (ValC 17 #[.slice ar Bl.length cr, .int .i64 k] w9 (.bool (hasI Bl (k : Int)))) := hide (fun W hW => has_law W ar _ cr Bl (k : Int) rfl (hRr.ext hW) (by have := HUL.out; omega))
                      have HTK := hide (HHT.out (k : Int))
                      have hbt : hasI Bl (k : Int) = true → hasI Tl (k : Int) = true := fun h => hasI_iff.2 (HNB.out _ (hasI_iff.1 h))
                      generalize hasI Bl (k : Int) = BB at HBK hbt
                      generalize hasI Tl (k : Int) = TB at HTK hbt
                      have q0 := hw9.keep q0
                      have q1 := hw9.keep q1
                      clear hw9 hRr hcr
                      cases BB
                      · clear hbt
                        go_wp2_with fail
                        refine (HBK.out.at _ (Ext.refl _)).mono ?_
                        rintro e w10 ⟨rfl, hw10⟩
                        go_wp2
                        exact ⟨⟨k + 1, hk1, by go_num, HWO.out.trans (hwr.trans hw10)⟩, by simp [intOf]; omega⟩
                      · rw [hbt rfl] at HTK
                        clear hbt
                        go_wp2_with fail
                        refine (HBK.out.at _ (Ext.refl _)).mono ?_
                        rintro e w10 ⟨rfl, hw10⟩
                        have hEr := hEr.trans hw10
                        go_wp2_with fail
                        refine (HTK.out.at _ hEr).mono ?_
                        rintro e w11 ⟨rfl, hw11⟩
                        go_wp2
                        exact ⟨⟨k + 1, hk1, by go_num, HWO.out.trans ((hwr.trans hw10).trans hw11)⟩, by simp [intOf]; omega⟩
                · have q0 := hwr.keep q0
                  have q1 := hwr.keep q1
                  have hw := hw.trans hEr
                  clear hwr
                  as_aux_lemma =>
                    go_wp2_with fail
                    refine (HMJ.out _ hEr).mono ?_
                    rintro e w9 ⟨ar, cr, rfl, hRr, hw9⟩
                    have q0 := hw9.keep q0
                    have q1 := hw9.keep q1
                    have hEr := hEr.trans hw9
                    have hw := hw.trans hw9
                    clear hw9 HMJ
                    cases hmj : mjB n vs
                    · have n2 : (1 : Int) < (n : Int) := by
                        by_cases h : n = 1
                        · rw [HM2.out h] at hmj
                          cases hmj
                        · omega
                      clear hmj
                      go_wp2_with fail
                      refine wp_region_X (by kernel_rfl) (by kernel_rfl) ?_
                      repeat' (refine wpX_stepQ (fun K hK => ?_)
                               go_simp
                               try (rw [if_neg (by intro h; simp [undef] at h)])
                               try split
                               all_goals
                                 first
                                 | (refine hK _ ?_
                                    clear hK K)
                                 | (apply Exists.intro
                                    refine ⟨fun wq hwq => ?_, hK _ ?_⟩
                                    · have hcq := hwq.cellS
                                      go_simp
                                      first
                                      | exact ⟨Ext.refl _, rfl⟩
                                    clear hK K))
                      refine wpX_nil (fun wz hwz => ?_)
                      go_wp2
                      go_ret
                      exact ⟨rfl, hw.trans hwz⟩
                    · obtain ⟨hrk, hr0, htr, hrl⟩ := HM1.out hmj
                      rw [htr] at HTR
                      have hlr := (rk_len hrk).1
                      have HRK : Hid (ValC 41 #[.int .i64 n, .slice ar (mjL n vs).length cr] w9 (.bool true)) := hide (fun W hW => by
                        have h := rank_spec W n ar cr (mjL n vs) (hRr.ext hW)
                        rw [hrk] at h
                        exact h)
                      generalize mjL n vs = R at *
                      obtain ⟨b4, o4, rfl, d4⟩ := hRr.at_ hr0
                      rw [Nat.add_zero] at d4
                      obtain ⟨b5, o5, e5, d5⟩ := hRr.at_ hrl
                      injection e5 with e5
                      injection e5 with e5 e6
                      subst e5
                      subst e6
                      have hrn : R.length = n := by omega
                      have hy : wrap64 ((n : Int) - 1) = ((n - 1 : Nat) : Int) ∧ IntKind.i64.wrap ((n : Int) - 1) = ((n - 1 : Nat) : Int) := ⟨by rw [IntWalk.wrap64_in _ (by omega)]; omega, by rw [IntWalk.i64_in _ (by omega)]; omega⟩
                      obtain ⟨y1, y2⟩ := hy
                      rw [hrn] at HRK ⊢
                      have hn1 : n - 1 < n := by omega
                      have hn0 : 0 < n := by omega
                      generalize loserO n vs = lo at *
                      clear hmj hrk hr0 htr hrl hlr hrn hRr HM1 HM2
                      go_wp2_with fail
                      refine wp_region_X (by kernel_rfl) (by kernel_rfl) ?_
                      repeat' (refine wpX_stepQ (fun K hK => ?_)
                               go_simp
                               try (rw [if_neg (by intro h; simp [undef] at h)])
                               try split
                               all_goals
                                 first
                                 | (refine hK _ ?_
                                    clear hK K)
                                 | (apply Exists.intro
                                    refine ⟨fun wq hwq => ?_, hK _ ?_⟩
                                    · have hcq := hwq.cellS
                                      go_simp
                                      first
                                      | exact ⟨Ext.refl _, rfl⟩
                                      | exact ⟨Ext.refl _, HRK.out.at _ (by repeat (first | exact Ext.refl _ | assumption | refine Ext.alloc ?_ _ | refine Ext.drew ?_ | refine Ext.trans ?_ (by assumption)))⟩
                                    clear hK K))
                      repeat' (refine wpX_stepQ (fun K hK => ?_)
                               go_simp
                               try (rw [if_neg (by intro h; simp [undef] at h)])
                               try split
                               all_goals
                                 first
                                 | (refine hK _ ?_
                                    clear hK K)
                                 | (apply Exists.intro
                                    refine ⟨fun wq hwq => ?_, hK _ ?_⟩
                                    · have hcq := hwq.cellS
                                      go_simp
                                      first
                                      | exact ⟨Ext.refl _, rfl⟩
                                      | exact ⟨Ext.refl _, HTR.out.at _ (hEr.trans (by repeat (first | exact Ext.refl _ | assumption | refine Ext.alloc ?_ _ | refine Ext.drew ?_ | refine Ext.trans ?_ (by assumption))))⟩
                                    clear hK K))
                      repeat' (refine wpX_stepQ (fun K hK => ?_)
                               go_simp
                               try (rw [if_neg (by intro h; simp [undef] at h)])
                               try split
                               all_goals
                                 first
                                 | (refine hK _ ?_
                                    clear hK K)
                                 | (apply Exists.intro
                                    refine ⟨fun wq hwq => ?_, hK _ ?_⟩
                                    · have hcq := hwq.cellS
                                      go_simp
                                      first
                                      | exact ⟨Ext.refl _, rfl⟩
                                      | exact ⟨Ext.refl _, HLO.out.at _ (hEr.trans (by repeat (first | exact Ext.refl _ | assumption | refine Ext.alloc ?_ _ | refine Ext.drew ?_ | refine Ext.trans ?_ (by assumption))))⟩
                                    clear hK K))
                      refine wpX_nil (fun wz hwz => ?_)
                      go_wp2
                      go_ret
                      exact ⟨rfl, hw.trans hwz⟩
    · have t3 : ((Tl.length : Int) == 1) = false := by rw [beq_eq_false_iff_ne]; omega
      rw [ew] at HM1 ⊢
      clear eT ew
      as_aux_lemma =>
        go_wp2_with fail
        refine (HSUM.out _ (Ext.refl _)).mono ?_
        rintro e w8 ⟨rfl, hw8⟩
        go_wp2_with fail
        go_loopw [11, 97] (fun _ i wr => ∃ k : Nat, k ≤ Ul.length ∧ i = .int .i64 k ∧ Ext wb wr) (fun _ i _ => Ul.length - (intOf i).toNat)
        case atStart => exact ⟨0, Nat.zero_le _, rfl, hw8⟩
        case round =>
          obtain ⟨k, hk, rfl, hwr⟩ := hrel
          clear hw8
          by_cases hlt : k < Ul.length
          · obtain ⟨x, hx⟩ := at_of_lt hlt
            have hm := HSB.out x (List.mem_of_getElem? hx)
            have HH := hide (HHT.out x _ hwr)
            rw [hasI_iff.2 hm] at HH
            obtain ⟨b4, o4, rfl, d4⟩ := (hRu.ext hwr).at_ hx
            have hk1 : k + 1 ≤ Ul.length := by omega
            clear hm hx
            go_wp2_with fail
            refine HH.out.mono ?_
            rintro e w9 ⟨rfl, hw9⟩
            go_wp2
            exact ⟨⟨k + 1, hk1, by go_num, hwr.trans hw9⟩, by simp [intOf]; omega⟩
          · obtain ⟨wo, hwo⟩ : ∃ wo : World, wo = wr := ⟨_, rfl⟩
            subst hwo
            have HEo := hide hwr
            have q0 := hwr.keep Q0
            have q1 := hwr.keep Q1
            clear hwr
            as_aux_lemma =>
              go_wp2_with fail
              go_loopw [12, 14, 111, 112, 113] (fun i _ _ _ _ wr => ∃ k : Nat, k ≤ n ∧ i = .int .i64 k ∧ Ext wo wr) (fun i _ _ _ _ _ => n - (intOf i).toNat)
              case atStart => exact ⟨0, Nat.zero_le _, rfl, Ext.refl _⟩
              case round =>
                obtain ⟨k, hk, rfl, hwr⟩ := hrel
                have hEr := HEo.out.trans hwr
                by_cases hlt : k < n
                · have hk1 : k + 1 ≤ n := by omega
                  have HEk := hide hEr
                  have q0 := hwr.keep q0
                  have q1 := hwr.keep q1
                  have R0 := q0
                  have R1 := q1
                  have HWO := hide hwr
                  obtain ⟨wi, hwi⟩ : ∃ wi : World, wi = wr := ⟨_, rfl⟩
                  subst hwi
                  clear hEr hwr
                  go_wp2_with fail
                  go_loopw [14, 113] (fun _ j wr => ∃ m : Nat, m ≤ Tl.length ∧ j = .int .i64 m ∧ Ext wi wr) (fun _ j _ => Tl.length - (intOf j).toNat)
                  case atStart => exact ⟨0, Nat.zero_le _, rfl, Ext.refl _⟩
                  case round =>
                    obtain ⟨m, hm, rfl, hwr⟩ := hrel
                    have q0 := hwr.keep R0
                    have q1 := hwr.keep R1
                    have hEr := HEk.out.trans hwr
                    by_cases hml : m < Tl.length
                    · obtain ⟨x, hx⟩ := at_of_lt hml
                      obtain ⟨x0, x1⟩ := HME.out x (List.mem_of_getElem? hx)
                      obtain ⟨y, rfl⟩ : ∃ y : Nat, x = y := ⟨x.toNat, by omega⟩
                      have hy : y < n := by omega
                      have hm1 : m + 1 ≤ Tl.length := by omega
                      have HK := hide (HHT.out (k : Int))
                      have HG := hide (HMG.out y k hy hlt)
                      have HC := hide (HCV.out k y hlt hy)
                      have HU := hide (HHU.out (y : Int))
                      have hdm := HDM.out k hlt
                      have hco := HCO.out k hlt (y : Int)
                      have hxm := List.mem_of_getElem? hx
                      obtain ⟨b4, o4, rfl, d4⟩ := (hRt.ext hEr).at_ hx
                      have hG0 : hasI Tl (k : Int) = false → 0 < marginV vs (y : Int) (k : Int) := fun h => by
                        have h1 := hdm (fun hm => by rw [hasI_iff.2 hm] at h; cases h) (y : Int) hxm
                        unfold beatsV at h1
                        rw [decide_eq_true_eq] at h1
                        unfold marginV
                        omega
                      have hG1 : coversV n vs (k : Int) (y : Int) = true → hasI Ul (y : Int) = false := fun h => by
                        cases h2 : hasI Ul (y : Int)
                        · rfl
                        · rw [hco (hasI_iff.1 h2)] at h
                          cases h
                      generalize marginV vs (y : Int) (k : Int) = G at HG hG0
                      generalize coversV n vs (k : Int) (y : Int) = CB at HC hG1
                      generalize hasI Ul (y : Int) = UB at HU hG1
                      generalize hasI Tl (k : Int) = TB at HK hG0
                      clear hxm hco hdm hx x0 x1
                      cases TB
                      · have g1 := hG0 rfl
                        have g2 : ¬ G ≤ 0 := by omega
                        clear hG0 g1
                        go_wp2_with fail
                        refine (HK.out.at _ hEr).mono ?_
                        rintro e w9 ⟨rfl, hw9⟩
                        have q0 := hw9.keep q0
                        have q1 := hw9.keep q1
                        have hEr := hEr.trans hw9
                        have hwr := hwr.trans hw9
                        clear hw9
                        go_wp2_with fail
                        refine (HG.out.at _ hEr).mono ?_
                        rintro e w10 ⟨rfl, hw10⟩
                        have q0 := hw10.keep q0
                        have q1 := hw10.keep q1
                        have hEr := hEr.trans hw10
                        have hwr := hwr.trans hw10
                        clear hw10
                        cases CB
                        · go_wp2_with fail
                          refine (HC.out.at _ hEr).mono ?_
                          rintro e w11 ⟨rfl, hw11⟩
                          go_wp2
                          exact ⟨⟨m + 1, hm1, by go_num, hwr.trans hw11⟩, by simp [intOf]; omega⟩
                        · rw [hG1 rfl] at HU
                          clear hG1
                          go_wp2_with fail
                          refine (HC.out.at _ hEr).mono ?_
                          rintro e w11 ⟨rfl, hw11⟩
                          have hEr := hEr.trans hw11
                          go_wp2_with fail
                          refine (HU.out.at _ hEr).mono ?_
                          rintro e w12 ⟨rfl, hw12⟩
                          go_wp2
                          exact ⟨⟨m + 1, hm1, by go_num, (hwr.trans hw11).trans hw12⟩, by simp [intOf]; omega⟩
                      · clear hG0
                        go_wp2_with fail
                        refine (HK.out.at _ hEr).mono ?_
                        rintro e w9 ⟨rfl, hw9⟩
                        have q0 := hw9.keep q0
                        have q1 := hw9.keep q1
                        have hEr := hEr.trans hw9
                        have hwr := hwr.trans hw9
                        clear hw9
                        cases CB
                        · go_wp2_with fail
                          refine (HC.out.at _ hEr).mono ?_
                          rintro e w11 ⟨rfl, hw11⟩
                          go_wp2
                          exact ⟨⟨m + 1, hm1, by go_num, hwr.trans hw11⟩, by simp [intOf]; omega⟩
                        · rw [hG1 rfl] at HU
                          clear hG1
                          go_wp2_with fail
                          refine (HC.out.at _ hEr).mono ?_
                          rintro e w11 ⟨rfl, hw11⟩
                          have hEr := hEr.trans hw11
                          go_wp2_with fail
                          refine (HU.out.at _ hEr).mono ?_
                          rintro e w12 ⟨rfl, hw12⟩
                          go_wp2
                          exact ⟨⟨m + 1, hm1, by go_num, (hwr.trans hw11).trans hw12⟩, by simp [intOf]; omega⟩
                    · 
                      go_wp2_with fail
                      refine (HUB.out.at _ hEr).mono ?_
                      rintro e w9 ⟨ar, cr, rfl, hRr, hcr, hw9⟩
                      have hEr := hEr.trans hw9
                      have hwr := hwr.trans hw9
                      have HBK : Hid (ValC 17 #[.slice ar Bl.length cr, .int .i64 k] w9 (.bool (hasI Bl (k : Int)))) := hide (fun W hW => has_law W ar _ cr Bl (k : Int) rfl (hRr.ext hW) (by have := HUL.out; omega))
                      have HTK := hide (HHT.out (k : Int))
                      have hbt : hasI Bl (k : Int) = true → hasI Tl (k : Int) = true := fun h => hasI_iff.2 (HNB.out _ (hasI_iff.1 h))
                      generalize hasI Bl (k : Int) = BB at HBK hbt
                      generalize hasI Tl (k : Int) = TB at HTK hbt
                      have q0 := hw9.keep q0
                      have q1 := hw9.keep q1
                      clear hw9 hRr hcr
                      cases BB
                      · clear hbt
                        go_wp2_with fail
                        refine (HBK.out.at _ (Ext.refl _)).mono ?_
                        rintro e w10 ⟨rfl, hw10⟩
                        go_wp2
                        exact ⟨⟨k + 1, hk1, by go_num, HWO.out.trans (hwr.trans hw10)⟩, by simp [intOf]; omega⟩
                      · rw [hbt rfl] at HTK
                        clear hbt
                        go_wp2_with fail
                        refine (HBK.out.at _ (Ext.refl _)).mono ?_
                        rintro e w10 ⟨rfl, hw10⟩
                        have hEr := hEr.trans hw10
                        go_wp2_with fail
                        refine (HTK.out.at _ hEr).mono ?_
                        rintro e w11 ⟨rfl, hw11⟩
                        go_wp2
                        exact ⟨⟨k + 1, hk1, by go_num, HWO.out.trans ((hwr.trans hw10).trans hw11)⟩, by simp [intOf]; omega⟩
                · have q0 := hwr.keep q0
                  have q1 := hwr.keep q1
                  have hw := hw.trans hEr
                  clear hwr
                  as_aux_lemma =>
                    go_wp2_with fail
                    refine (HMJ.out _ hEr).mono ?_
                    rintro e w9 ⟨ar, cr, rfl, hRr, hw9⟩
                    have q0 := hw9.keep q0
                    have q1 := hw9.keep q1
                    have hEr := hEr.trans hw9
                    have hw := hw.trans hw9
                    clear hw9 HMJ
                    cases hmj : mjB n vs
                    · have n2 : (1 : Int) < (n : Int) := by
                        by_cases h : n = 1
                        · rw [HM2.out h] at hmj
                          cases hmj
                        · omega
                      clear hmj
                      go_wp2_with fail
                      refine wp_region_X (by kernel_rfl) (by kernel_rfl) ?_
                      repeat' (refine wpX_stepQ (fun K hK => ?_)
                               go_simp
                               try (rw [if_neg (by intro h; simp [undef] at h)])
                               try split
                               all_goals
                                 first
                                 | (refine hK _ ?_
                                    clear hK K)
                                 | (apply Exists.intro
                                    refine ⟨fun wq hwq => ?_, hK _ ?_⟩
                                    · have hcq := hwq.cellS
                                      go_simp
                                      first
                                      | exact ⟨Ext.refl _, rfl⟩
                                    clear hK K))
                      refine wpX_nil (fun wz hwz => ?_)
                      go_wp2
                      go_ret
                      exact ⟨rfl, hw.trans hwz⟩
                    · obtain ⟨hrk, hr0, htr, hrl⟩ := HM1.out hmj
                      rw [htr] at HTR
                      have hlr := (rk_len hrk).1
                      have HRK : Hid (ValC 41 #[.int .i64 n, .slice ar (mjL n vs).length cr] w9 (.bool true)) := hide (fun W hW => by
                        have h := rank_spec W n ar cr (mjL n vs) (hRr.ext hW)
                        rw [hrk] at h
                        exact h)
                      generalize mjL n vs = R at *
                      obtain ⟨b4, o4, rfl, d4⟩ := hRr.at_ hr0
                      rw [Nat.add_zero] at d4
                      obtain ⟨b5, o5, e5, d5⟩ := hRr.at_ hrl
                      injection e5 with e5
                      injection e5 with e5 e6
                      subst e5
                      subst e6
                      have hrn : R.length = n := by omega
                      have hy : wrap64 ((n : Int) - 1) = ((n - 1 : Nat) : Int) ∧ IntKind.i64.wrap ((n : Int) - 1) = ((n - 1 : Nat) : Int) := ⟨by rw [IntWalk.wrap64_in _ (by omega)]; omega, by rw [IntWalk.i64_in _ (by omega)]; omega⟩
                      obtain ⟨y1, y2⟩ := hy
                      rw [hrn] at HRK ⊢
                      have hn1 : n - 1 < n := by omega
                      have hn0 : 0 < n := by omega
                      generalize loserO n vs = lo at *
                      clear hmj hrk hr0 htr hrl hlr hrn hRr HM1 HM2
                      go_wp2_with fail
                      refine wp_region_X (by kernel_rfl) (by kernel_rfl) ?_
                      repeat' (refine wpX_stepQ (fun K hK => ?_)
                               go_simp
                               try (rw [if_neg (by intro h; simp [undef] at h)])
                               try split
                               all_goals
                                 first
                                 | (refine hK _ ?_
                                    clear hK K)
                                 | (apply Exists.intro
                                    refine ⟨fun wq hwq => ?_, hK _ ?_⟩
                                    · have hcq := hwq.cellS
                                      go_simp
                                      first
                                      | exact ⟨Ext.refl _, rfl⟩
                                      | exact ⟨Ext.refl _, HRK.out.at _ (by repeat (first | exact Ext.refl _ | assumption | refine Ext.alloc ?_ _ | refine Ext.drew ?_ | refine Ext.trans ?_ (by assumption)))⟩
                                    clear hK K))
                      repeat' (refine wpX_stepQ (fun K hK => ?_)
                               go_simp
                               try (rw [if_neg (by intro h; simp [undef] at h)])
                               try split
                               all_goals
                                 first
                                 | (refine hK _ ?_
                                    clear hK K)
                                 | (apply Exists.intro
                                    refine ⟨fun wq hwq => ?_, hK _ ?_⟩
                                    · have hcq := hwq.cellS
                                      go_simp
                                      first
                                      | exact ⟨Ext.refl _, rfl⟩
                                      | exact ⟨Ext.refl _, HTR.out.at _ (hEr.trans (by repeat (first | exact Ext.refl _ | assumption | refine Ext.alloc ?_ _ | refine Ext.drew ?_ | refine Ext.trans ?_ (by assumption))))⟩
                                    clear hK K))
                      repeat' (refine wpX_stepQ (fun K hK => ?_)
                               go_simp
                               try (rw [if_neg (by intro h; simp [undef] at h)])
                               try split
                               all_goals
                                 first
                                 | (refine hK _ ?_
                                    clear hK K)
                                 | (apply Exists.intro
                                    refine ⟨fun wq hwq => ?_, hK _ ?_⟩
                                    · have hcq := hwq.cellS
                                      go_simp
                                      first
                                      | exact ⟨Ext.refl _, rfl⟩
                                      | exact ⟨Ext.refl _, HLO.out.at _ (hEr.trans (by repeat (first | exact Ext.refl _ | assumption | refine Ext.alloc ?_ _ | refine Ext.drew ?_ | refine Ext.trans ?_ (by assumption))))⟩
                                    clear hK K))
                      refine wpX_nil (fun wz hwz => ?_)
                      go_wp2
                      go_ret
                      exact ⟨rfl, hw.trans hwz⟩
  · go_enter Try.func6, Try.ntmps6
    go_wp2
    go_ret
    exact ⟨rfl, (by repeat (first | exact Ext.refl _ | assumption | refine Ext.alloc ?_ _ | refine Ext.drew ?_ | refine Ext.trans ?_ (by assumption)))⟩

section
open Go.ChangeShapes Go.WideShapes Go.ChangeAt Go.RowKit Go.Joins Go.Deep
set_option maxRecDepth 100000 in
theorem fnPairs_lifted (os : Os) (started : os.Started) (H : Type) (enc : TypeId × Value → H) :
    ReturnsInHanded {} Try.checked os 6 .any (Rows.fnPairsSpec.pre6 enc Try.prog Try.f6 Rows.fnPairsRow.domain false) (Rows.fnPairsSpec.post enc Try.prog Try.f6 false true false false) := by
  refine returnsInHanded_of_change (C := Try.checked) own started (by kernel_rfl) Try.func6
    (ChangeSpec.witness6 (enc := enc) (C := Try.checked) false ⟨#[], #[.slice Option.none 0 0], []⟩ 8 (by kernel_rfl) (by kernel_rfl) (by kernel_rfl) (by kernel_rfl)) ?_
  intro W base args ds gs before hval0 hW hcnd _
  have hval : ∀ (j : Nat) t v, Try.f6.params[j]? = some t → args[j]? = some v → Value.okWide Try.prog W .any base t v := hval0
  have hW' := hW
  obtain ⟨p, q, hA0, hV, rfl, hfz, hnd⟩ := hW
  have hA : DataW.TrodAll enc Try.prog W 0 (fun _ => true) true Try.f6.params.toList args.toList ds p := hA0
  rw [Try.params6] at hA hval
  obtain ⟨v0, vs0, d0, ds0, p0, q0, hargs, rfl, rfl, h0, r0⟩ := trodAll_cons hA
  obtain ⟨rfl, rfl, rfl⟩ := trodAll_nil r0
  obtain rfl : args = #[v0] := by cases args; simp_all
  obtain ⟨rfl, rfl⟩ := trodVars_none hV
  have k0 := h0
  have lt0 : ∀ x ∈ p0, x.block < W.heap.size := by obtain ⟨m, hm⟩ := k0; exact DataW.trod_lt m _ _ _ hm
  obtain ⟨a0, bs0, c0, rfl, hR0, hl0⟩ := openY (hval 0 22 v0 rfl rfl) h0
  clear hA0 hval0
  refine (pai_law W a0 c0 bs0 hR0 hl0).mono fun e W' ⟨he, bel⟩ => ?_
  subst he
  exact ⟨_, rfl, _, _, _, [], _, [], hW', trodAll_mk1 (shut_bool Try.underlying4 _), (trodAll_cons_mk (Below.trod laidOut (by kernel_rfl) (of_decide_eq_true (by kernel_rfl)) k0 bel lt0) trodAll_mk0), rfl, bel.frame _, fun h => by cases h⟩

set_option maxRecDepth 100000 in
theorem fnPairs_holds : Rows.FnPairsSaid :=
  OpenClaim.holds_of_wide 6 Try.f6 rfl rfl rfl rfl rfl rfl rfl ⟨rfl, rfl, rfl, rfl, rfl⟩ rfl rfl rfl rfl rfl (by kernel_rfl) Try.func6 (by kernel_rfl)
    (of_decide_eq_true (by kernel_rfl)) (by unfold Func.isWrapper; first | (rw [if_pos (by decide +kernel)]; kernel_rfl) | (rw [if_neg (by decide +kernel)]; exact ⟨rfl, rfl⟩))
    (fun os started H enc _ => fnPairs_lifted os started H enc)
#print axioms fnPairs_holds
end

end Go.Proofs.Ythiojkpoeejkaaa
