/- FnProfiles answers true at every input. -/
import Derived.Test.YtkbbcglghfddjaaCf5
import Derived.Test.YtkbbcglghfddjaaCf14
import Derived.Test.YtkbbcglghfddjaaCf20
import Derived.Test.YtkbbcglghfddjaaCf1
import Derived.Test.YtkbbcglghfddjaaCf7
import Derived.Test.YtkbbcglghfddjaaCf25
import Derived.Test.YtkbbcglghfddjaaCf24
namespace Go.Proofs.Ytkbbcglghfddjaa
open Go.RowKit

set_option maxRecDepth 100000 in
theorem pairOP_eq {n : Nat} {vs : List Vt} (h0 : profOk n vs = true) {x y : Nat} (hx : x < n) (hy : y < n) : pairO n vs x y = pairV vs x y := by
  unfold pairO
  have e1 : hasB n x = true := inR_iff.2 (by omega)
  have e2 : hasB n y = true := inR_iff.2 (by omega)
  rw [h0, e1, e2]
  rfl
set_option maxRecDepth 100000 in
theorem allV_six : ∀ vs : List Vt, (∀ x ∈ vs, x.2 ≤ 6) → allV vs ≤ 6 * (vs.length : Int)
  | [], _ => by simp [allV, sumV]
  | x :: vs, h => by
    have ih := allV_six vs (fun y hy => h y (List.mem_cons_of_mem _ hy))
    have hx := h x (by simp)
    rw [allV_cons, List.length_cons]
    omega

set_option maxRecDepth 100000 in
set_option maxHeartbeats 8000000 in
theorem prf_law (w : World) (a : Option Addr) (c : Nat) (bs : List Int) (hR : RdY w a bs) (_ : bs.length ≤ maxLen) :
    Calls Try.prog 3 #[.slice a bs.length c] w fun e w' => e = .returned (.bool true) ∧ Ext w w' := by
  by_cases hb : bs.length ≤ 1048576
  · go_enter Try.func3, Try.ntmps3
    go_wp2_with fail
    refine (numY_spec _ a c 0 bs (hR.ext (by repeat (first | exact Ext.refl _ | assumption | refine Ext.alloc ?_ _ | refine Ext.drew ?_ | refine Ext.trans ?_ (by assumption)))) hb (by omega)).mono ?_
    rintro e w1 ⟨x, rfl, hx, hw1⟩
    go_wp2_with fail
    obtain ⟨n, hn, n1, n5⟩ : ∃ n : Nat, 1 + (x : Int) % 4 = n ∧ 1 ≤ n ∧ n ≤ 4 := ⟨(1 + (x : Int) % 4).toNat, by omega, by omega, by omega⟩
    rw [hn]
    clear hn hx
    refine (mkprofC_spec _ a c 2 n bs (hR.ext (by repeat (first | exact Ext.refl _ | assumption | refine Ext.alloc ?_ _ | refine Ext.drew ?_ | refine Ext.trans ?_ (by assumption)))) hb (by omega) n1 (by omega)).mono ?_
    rintro e w2 ⟨v, rfl, a', vs, c', rfl, hRV, ⟨h0, v1, v5, v6⟩, hw2, hcap⟩
    have q0 := new0 w2 (.int .i64 n) [.slice a' vs.length c'] 26
    have q1 := new1 w2 (.int .i64 n) (.slice a' vs.length c') [] 26
    have hE := Ext.new w2 (.cells #[.int .i64 n, .slice a' vs.length c'] 26)
    go_wp2_with fail
    have hw := (Ext.trans hw1 hw2).trans hE
    replace hRV := hRV.ext hE
    have HV := hide (⟨v1, v5, v6⟩ : 1 ≤ vs.length ∧ vs.length ≤ 5 ∧ ∀ x ∈ vs, x.2 ≤ 6)
    have HCAP := hide hcap
    have HNUM : Hid (∀ W' (k : Nat), k ≤ 1000 → Ext w W' → Calls Try.prog 5 #[.slice a bs.length c, .int .i64 k] W' fun e w' => ∃ x : Nat, e = .returned (.int .i64 x) ∧ x ≤ 65536 ∧ Ext W' w') := hide (fun W' k hk hW' => (numY_spec W' a c k bs (hR.ext hW') hb hk).mono fun e w' ⟨x, h1, h2, h3⟩ => ⟨x, h1, by omega, h3⟩)
    have HMKR : Hid (∀ W', Ext w W' → Calls Try.prog 10 #[.slice a bs.length c, .int .i64 60, .int .i64 n] W' fun e w' => ∃ a5 r c5, e = .returned (.slice a5 n c5) ∧ RdI w' a5 r ∧ rkOk n r = true ∧ r.length = n ∧ n ≤ c5 ∧ Ext W' w') := hide (fun W' hW' => mkrank_spec W' a c 60 n bs (hR.ext hW') hb (by omega) n1 (by omega))
    clear hR hb hw1 hw2 hE v1 v5 v6 hcap
    generalize w2.alloc (.cells #[.int .i64 n, .slice a' vs.length c'] 26) = W0 at hw hRV q0 q1 ⊢
    have H0 := hide h0
    have HS := hide (prof_small h0)
    have hv30 : allV vs ≤ 1000 := by
      obtain ⟨v1, v5, v6⟩ := HV.out
      have := allV_six vs v6
      omega
    have HCO : Hid (∀ W, Ext W0 W → Calls Try.prog 7 #[.agg #[.int .i64 n, .slice a' vs.length c']] W fun e w' => e = .returned (.int .i64 (allV vs)) ∧ Ext W w') := hide (fun W hW => by
      have := count_impl W n a' c' vs (hRV.ext hW)
      rw [if_pos h0] at this
      exact this)
    clear HCAP HNUM
    refine (HCO.out _ (Ext.refl _)).mono ?_
    rintro e w3 ⟨rfl, hw3⟩
    replace q0 := hw3.keep q0
    replace q1 := hw3.keep q1
    go_wp2_with fail
    refine (mrg_impl _ n a' c' vs (hRV.ext hw3) h0 hv30).mono ?_
    rintro e w4 ⟨aq, cq, rfl, hRq, _, hw4⟩
    obtain ⟨ms, hms⟩ : ∃ ms, ms = mrgV n vs := ⟨_, rfl⟩
    rw [← hms] at hRq ⊢
    have hE4 := hw3.trans hw4
    replace q0 := hw4.keep q0
    replace q1 := hw4.keep q1
    have m0 := new0 w4 (.int .i64 n) [.slice aq ms.length cq] 26
    have m1 := new1 w4 (.int .i64 n) (.slice aq ms.length cq) [] 26
    have hEm := Ext.new w4 (.cells #[.int .i64 n, .slice aq ms.length cq] 26)
    clear hw3 hw4
    have HMS := hide hms
    clear hms
    go_wp2_with fail
    replace q0 := hEm.keep q0
    replace q1 := hEm.keep q1
    replace hE4 := hE4.trans hEm
    replace hRq := hRq.ext hEm
    generalize w4.alloc (.cells #[.int .i64 n, .slice aq ms.length cq] 26) = w5 at hE4 hRq q0 q1 m0 m1 ⊢
    clear hEm
    refine (revP_impl _ n a' c' vs (hRV.ext hE4) h0).mono ?_
    rintro e w6 ⟨v, es, rfl, hl, hm, hw6⟩
    obtain ⟨ar, cr, rfl, _⟩ := hl.form
    have hRr := RowsV.rd hl.1 hl.2
    rw [hm] at hRr
    have hRr : RdV w6 ar (mapV List.reverse vs) := hRr
    have hel : es.length = vs.length := by
      have := congrArg List.length hm
      unfold vtsOf at this
      rw [List.length_map, List.length_map] at this
      exact this
    rw [hel]
    clear hl hm hel
    have hE6 := hE4.trans hw6
    replace q0 := hw6.keep q0
    replace q1 := hw6.keep q1
    replace m0 := hw6.keep m0
    replace m1 := hw6.keep m1
    replace hRq := hRq.ext hw6
    have r0 := new0 w6 (.int .i64 n) [.slice ar vs.length cr] 26
    have r1 := new1 w6 (.int .i64 n) (.slice ar vs.length cr) [] 26
    have hEm := Ext.new w6 (.cells #[.int .i64 n, .slice ar vs.length cr] 26)
    clear hE4 hw6
    go_wp2_with fail
    replace q0 := hEm.keep q0
    replace q1 := hEm.keep q1
    replace m0 := hEm.keep m0
    replace m1 := hEm.keep m1
    replace hE6 := hE6.trans hEm
    replace hRq := hRq.ext hEm
    replace hRr := hRr.ext hEm
    generalize w6.alloc (.cells #[.int .i64 n, .slice ar vs.length cr] 26) = w7 at hE6 hRq hRr q0 q1 m0 m1 r0 r1 ⊢
    clear hEm
    refine (HMKR.out _ (hw.trans hE6)).mono ?_
    rintro e w8 ⟨an, ns, cn, rfl, hRn, hnk, hnl, hcn, hw8⟩
    have hE8 := hE6.trans hw8
    replace q0 := hw8.keep q0
    replace q1 := hw8.keep q1
    replace m0 := hw8.keep m0
    replace m1 := hw8.keep m1
    replace r0 := hw8.keep r0
    replace r1 := hw8.keep r1
    replace hRq := hRq.ext hw8
    replace hRr := hRr.ext hw8
    clear hE6 hw8 HMKR
    go_wp2_with fail
    refine (renP_impl _ n a' an c' cn vs ns (hRV.ext hE8) h0 hnk hRn hcn).mono ?_
    rintro e w9 ⟨v, es, rfl, hl, hm, hw9⟩
    obtain ⟨az, cz, rfl, _⟩ := hl.form
    have hRz := RowsV.rd hl.1 hl.2
    rw [hm] at hRz
    have hel : es.length = vs.length := by
      have := congrArg List.length hm
      unfold vtsOf at this
      rw [List.length_map, mapV_len] at this
      exact this
    rw [hel]
    clear hl hm hel
    have hE9 := hE8.trans hw9
    replace q0 := hw9.keep q0
    replace q1 := hw9.keep q1
    replace m0 := hw9.keep m0
    replace m1 := hw9.keep m1
    replace r0 := hw9.keep r0
    replace r1 := hw9.keep r1
    replace hRq := hRq.ext hw9
    replace hRr := hRr.ext hw9
    replace hRn := hRn.ext hw9
    have z0 := new0 w9 (.int .i64 n) [.slice az vs.length cz] 26
    have z1 := new1 w9 (.int .i64 n) (.slice az vs.length cz) [] 26
    have hEm := Ext.new w9 (.cells #[.int .i64 n, .slice az vs.length cz] 26)
    have hF := prf_f n1 n5 h0 hv30 hnk
    clear hE8 hw9
    go_wp2_with fail
    replace q0 := hEm.keep q0
    replace q1 := hEm.keep q1
    replace m0 := hEm.keep m0
    replace m1 := hEm.keep m1
    replace r0 := hEm.keep r0
    replace r1 := hEm.keep r1
    replace hE9 := hE9.trans hEm
    replace hRq := hRq.ext hEm
    replace hRr := hRr.ext hEm
    replace hRn := hRn.ext hEm
    replace hRz := hRz.ext hEm
    generalize w9.alloc (.cells #[.int .i64 n, .slice az vs.length cz] 26) = w10 at hE9 hRq hRr hRn hRz q0 q1 m0 m1 r0 r1 z0 z1 ⊢
    clear hEm
    have hmok := hF.mok
    have hmall := hF.mall
    have hmmrg := hF.mmrg
    have hmlen := hF.mlen
    rw [← HMS.out] at hmok hmall hmlen
    rw [← HMS.out, HMS.out] at hmmrg
    have HSAM : Hid (ValC 12 #[.agg #[.int .i64 n, .slice a' vs.length c'], .agg #[.int .i64 n, .slice aq ms.length cq]] w10 (.bool true)) := hide (fun W hW =>
      same_impl W n a' aq c' cq vs ms (hRV.ext (hE9.trans hW)) (hRq.ext hW) h0 hmok hv30 (by rw [hmall]; exact hv30) (by rw [HMS.out]; exact hF.mmrg))
    have HCQ : Hid (ValC 7 #[.agg #[.int .i64 n, .slice aq ms.length cq]] w10 (.int .i64 (allV vs))) := hide (fun W hW => by
      have := count_impl W n aq cq ms (hRq.ext hW)
      rw [if_pos hmok, hmall] at this
      exact this)
    have HMG : Hid (∀ x y : Nat, x < n → y < n → ValC 14 #[.agg #[.int .i64 n, .slice a' vs.length c'], .int .i64 x, .int .i64 y] w10 (.int .i64 (marginV vs x y))) := hide (fun x y hx hy W hW => by
      have h := margin_impl' W n a' c' vs x y (hRV.ext (hE9.trans hW))
      rw [margO_eq h0 hx hy] at h
      exact h)
    have HMQ : Hid (∀ x y : Nat, x < n → y < n → ValC 14 #[.agg #[.int .i64 n, .slice aq ms.length cq], .int .i64 x, .int .i64 y] w10 (.int .i64 (marginV vs x y))) := hide (fun x y hx hy W hW => by
      have h := margin_impl' W n aq cq ms x y (hRq.ext hW)
      rw [margO_eq hmok hx hy, HMS.out, hF.mmar, ← HMS.out] at h
      exact h)
    have HMR : Hid (∀ x y : Nat, x < n → y < n → ValC 14 #[.agg #[.int .i64 n, .slice ar vs.length cr], .int .i64 x, .int .i64 y] w10 (.int .i64 (- marginV vs x y))) := hide (fun x y hx hy W hW => by
      have h := margin_impl' W n ar cr _ x y (hRr.ext hW)
      rw [margO_eq hF.rok hx hy, hF.rmar x y hx hy, mapV_len] at h
      exact h)
    have hns : ∀ x : Nat, x < n → ∃ b : Nat, b < n ∧ ns.getD x 0 = b := fun x hx => by
      obtain ⟨z, hz⟩ := at_of_lt (xs := ns) (k := x) (by omega)
      have hm := rk_mem hnk (List.mem_of_getElem? hz)
      exact ⟨z.toNat, by omega, by rw [show ns.getD x 0 = z by simp [List.getD, hz]]; omega⟩
    have HMZ : Hid (∀ x y : Nat, x < n → y < n → ValC 14 #[.agg #[.int .i64 n, .slice az vs.length cz], .int .i64 (ns.getD x 0), .int .i64 (ns.getD y 0)] w10 (.int .i64 (marginV vs x y))) := hide (fun x y hx hy W hW => by
      obtain ⟨b1, hb1, e1⟩ := hns x hx
      obtain ⟨b2, hb2, e2⟩ := hns y hy
      have h := margin_impl' W n az cz _ (ns.getD x 0) (ns.getD y 0) (hRz.ext hW)
      have hs := hF.smar x y hx hy
      rw [e1, e2] at h hs ⊢
      rw [margO_eq hF.sok hb1 hb2, hs, mapV_len] at h
      exact h)
    have HPC : Hid (∀ x y : Nat, x < n → y < n → ValC 15 #[.agg #[.int .i64 n, .slice a' vs.length c'], .int .i64 x, .int .i64 y] w10 (.int .i64 (pairV vs x y))) := hide (fun x y hx hy W hW => by
      have h := pair_impl W n a' c' vs x y (hRV.ext (hE9.trans hW))
      rw [pairOP_eq h0 hx hy] at h
      exact h)
    have HTOT := hide hF.tot
    have HPB : Hid (∀ x y : Int, 0 ≤ pairV vs x y ∧ pairV vs x y ≤ 24000) := hide (fun x y => sumV_bd' HS.out)
    have HNS : Hid (∀ x : Nat, x < n → ns[x]? = some (ns.getD x 0)) := hide (fun x hx => by
      obtain ⟨z, hz⟩ := at_of_lt (xs := ns) (k := x) (by omega)
      rw [hz]
      simp [List.getD, hz])
    have HDR : Hid (3 ≤ n → profOk (((n : Int) - 1)) (mapV (dropL ((n : Int) - 1)) vs) = true ∧ marginV (mapV (dropL ((n : Int) - 1)) vs) 0 1 = marginV vs 0 1) := hide (fun h3 => by
      have := hF.dmar h3
      rw [show ((n - 1 : Nat) : Int) = (n : Int) - 1 by omega] at this
      exact this)
    have hml : ¬ ((vs.length : Int) < (ms.length : Int)) := by omega
    have hwf := hw.trans hE9
    replace hRV := hRV.ext hE9
    have hA1 : 0 ≤ allV vs ∧ allV vs ≤ 24000 := sumV_bd' HS.out
    clear hF hmok hmall hmmrg hmlen hns hRq hRr hRz hv30 hE9 HCO hw hnk
    generalize allV vs = V at HCQ HTOT hA1 ⊢
    refine (HSAM.out.at _ (Ext.refl _)).mono ?_
    rintro e w11 ⟨rfl, hw11⟩
    replace m0 := hw11.keep m0
    replace m1 := hw11.keep m1
    replace q0 := hw11.keep q0
    replace q1 := hw11.keep q1
    replace r0 := hw11.keep r0
    replace r1 := hw11.keep r1
    replace z0 := hw11.keep z0
    replace z1 := hw11.keep z1
    go_wp2_with fail
    refine (HCQ.out.at _ hw11).mono ?_
    rintro e w12 ⟨rfl, hw12⟩
    replace m0 := hw12.keep m0
    replace m1 := hw12.keep m1
    replace q0 := hw12.keep q0
    replace q1 := hw12.keep q1
    replace r0 := hw12.keep r0
    replace r1 := hw12.keep r1
    replace z0 := hw12.keep z0
    replace z1 := hw12.keep z1
    have hE12 := hw11.trans hw12
    clear hw11 hw12 HSAM HCQ
    go_wp2_with fail
    refine (mgn_impl _ n a' c' vs (hRV.ext hE12)).mono ?_
    rintro e w13 ⟨v, rfl, hv, hw13⟩
    rw [show mgnO n vs = tabL n (mgnV vs) by unfold mgnO; rw [if_pos H0.out, Int.toNat_natCast]] at hv
    obtain ⟨atb, ctb, rfl, _, hmt⟩ := hv
    have htl := tabL_len n (mgnV vs)
    obtain ⟨gt, us, rfl, hMat⟩ := hmt (List.ne_nil_of_length_pos (by omega))
    rw [htl] at hMat ⊢
    have HROW : Hid (∀ x : Nat, x < n → ∃ bx ox cx, us x = .slice (some ⟨bx, ox, none⟩) n cx ∧ w13.cell? ⟨gt, x, none⟩ = some (.slice (some ⟨bx, ox, none⟩) n cx) ∧ ∀ y : Nat, y < n → w13.cell? ⟨bx, ox + y, none⟩ = some (.int .i64 (marginV vs x y))) := hide (fun x hx => by
      have hr := hMat.row x hx
      rw [show (tabL n (mgnV vs)).getD x [] = rowL n (mgnV vs x) by simp [List.getD, tabL_at hx]] at hr
      obtain ⟨ax, cx, hu, _, _, hRx, _⟩ := hr.val
      rw [rowL_len] at hu
      obtain ⟨bx, ox, hax, hcx⟩ := hRx (List.ne_nil_of_length_pos (by rw [rowL_len]; omega))
      subst hax
      have hc := hMat.outer.cell x hx
      rw [hu] at hc
      exact ⟨bx, ox, cx, hu, hc, fun y hy => hcx y _ (rowL_at (f := mgnV vs x) hy)⟩)
    replace m0 := hw13.keep m0
    replace m1 := hw13.keep m1
    replace q0 := hw13.keep q0
    replace q1 := hw13.keep q1
    replace r0 := hw13.keep r0
    replace r1 := hw13.keep r1
    replace z0 := hw13.keep z0
    replace z1 := hw13.keep z1
    have hE13 := hE12.trans hw13
    clear hMat hmt htl hE12 hw13
    obtain ⟨bn, on, rfl, hnc⟩ := (hRn.ext hE13) (List.ne_nil_of_length_pos (by have := HNS.out 0 (by omega); have := lt_of_at this; omega))
    have HNC : Hid (∀ x : Nat, x < n → w13.cell? ⟨bn, on + x, none⟩ = some (.int .i64 (ns.getD x 0))) := hide (fun x hx => hnc x _ (HNS.out x hx))
    clear hnc hRn HNS
    obtain ⟨wb, hwb⟩ : ∃ wb : World, wb = w13 := ⟨_, rfl⟩
    subst hwb
    have HE13 := hide hE13
    clear hE13
    go_wp2_with fail
    go_loopw [14, 15, 16] (fun i _ _ wr => ∃ k : Nat, k ≤ n ∧ i = .int .i64 k ∧ Ext wb wr) (fun i _ _ _ => n - (intOf i).toNat)
    case atStart => exact ⟨0, Nat.zero_le _, rfl, Ext.refl _⟩
    case round =>
      obtain ⟨k, hk, rfl, hwr⟩ := hrel
      by_cases hkt : k < n
      · obtain ⟨bx, ox, cx, hu, d0, hxy⟩ := HROW.out k hkt
        have HXY := hide hxy
        clear hu hxy HROW
        have D0 := d0
        replace d0 := hwr.keep d0
        have hk1 : k + 1 ≤ n := by omega
        obtain ⟨wi, hwi⟩ : ∃ wi : World, wi = wr := ⟨_, rfl⟩
        subst hwi
        have HEi := hide hwr
        clear hwr
        go_wp2_with fail
        go_loopw [15, 16] (fun j _ wr => ∃ l : Nat, l ≤ n ∧ j = .int .i64 l ∧ Ext wi wr) (fun j _ _ => n - (intOf j).toNat)
        case atStart => exact ⟨0, Nat.zero_le _, rfl, Ext.refl _⟩
        case round =>
          obtain ⟨l, hl, rfl, hwr⟩ := hrel
          have hEr := HEi.out.trans hwr
          by_cases hlt : l < n
          · have hl1 : l + 1 ≤ n := by omega
            replace q0 := hEr.keep q0
            replace q1 := hEr.keep q1
            have hK2 : marginV vs l k = - marginV vs k l := by unfold marginV; omega
            have p1 := HPB.out k l
            have p2 := HPB.out l k
            have hKb : -24000 ≤ marginV vs k l ∧ marginV vs k l ≤ 24000 := by unfold marginV; omega
            have HK1 := hide (HMG.out k l hkt hlt)
            have HK2 := hide (HMG.out l k hlt hkt)
            have HKQ := hide (HMQ.out k l hkt hlt)
            have HKR := hide (HMR.out k l hkt hlt)
            have HKZ := hide (HMZ.out k l hkt hlt)
            have HP1 := hide (HPC.out k l hkt hlt)
            have HP2 := hide (HPC.out l k hlt hkt)
            have htt : k ≠ l → pairV vs k l + pairV vs l k = V := HTOT.out k l hkt hlt
            have c1 := HXY.out l hlt
            have n0 := HNC.out k hkt
            have n9 := HNC.out l hlt
            rw [hK2] at HK2
            clear hK2
            generalize marginV vs k l = K at hKb HK1 HK2 HKQ HKR HKZ c1
            generalize pairV vs k l = P1 at p1 htt HP1
            generalize pairV vs l k = P2 at p2 htt HP2
            generalize ns.getD k 0 = N1 at HKZ n0
            generalize ns.getD l 0 = N2 at HKZ n9
            obtain ⟨M2, hM2⟩ : ∃ M2, M2 = -K := ⟨_, rfl⟩
            rw [← hM2] at HK2 HKR
            have hM3 : -M2 = K := by omega
            have y2 : IntKind.i64.wrap (-M2) = K := by rw [hM3]; exact IntWalk.i64_in _ (by omega)
            have y3 : IntKind.i64.wrap (-K) = M2 := by rw [← hM2]; exact IntWalk.i64_in _ (by omega)
            clear hM2 hM3 HMG HMQ HMR HMZ HPC HTOT HPB HNC HXY HDR HEi
            go_wp2_with fail
            refine (HK1.out.at _ (HE13.out.trans hEr)).mono ?_
            rintro e w14 ⟨rfl, hw14⟩
            have hE14 := hEr.trans hw14
            have hX := HE13.out.trans hE14
            replace q0 := hw14.keep q0
            replace q1 := hw14.keep q1
            replace m0 := hE14.keep m0
            replace m1 := hE14.keep m1
            replace r0 := hE14.keep r0
            replace r1 := hE14.keep r1
            replace z0 := hE14.keep z0
            replace z1 := hE14.keep z1
            replace D0 := hE14.keep D0
            replace c1 := hE14.keep c1
            replace n0 := hE14.keep n0
            replace n9 := hE14.keep n9
            replace hwr := hwr.trans hw14
            clear hw14 hEr HK1 d0
            by_cases hkl : k = l
            · have e1 : ((k : Int) != (l : Int)) = false := by rw [hkl]; simp
              clear htt hkl HP1 HP2
              as_aux_lemma =>
                go_wp2
                refine wp_region_X (by kernel_rfl) (by kernel_rfl) ?_
                repeat' (refine wpX_stepQ (fun K hK => ?_)
                         go_simp
                         try (rw [if_neg (by intro h; simp [undef] at h)])
                         try split
                         all_goals
                           first
                           | (refine hK _ ?_
                              clear hK K)
                           | (apply Exists.intro
                              refine ⟨fun wq hwq => ?_, hK _ ?_⟩
                              · have hcq := hwq.cellS
                                go_simp
                                first
                                | exact ⟨Ext.refl _, rfl⟩
                              clear hK K))
                refine wpX_stepQ (fun K hK => ?_)
                go_simp
                apply Exists.intro
                refine ⟨fun wq hwq => ?_, hK _ ?_⟩
                · have hcq := hwq.cellS
                  go_simp
                  exact ⟨Ext.refl _, HK2.out.at _ (hX.trans hwq)⟩
                clear hK K
                repeat' (refine wpX_stepQ (fun K hK => ?_)
                         go_simp
                         try (rw [if_neg (by intro h; simp [undef] at h)])
                         try split
                         all_goals
                           first
                           | (refine hK _ ?_
                              clear hK K)
                           | (apply Exists.intro
                              refine ⟨fun wq hwq => ?_, hK _ ?_⟩
                              · have hcq := hwq.cellS
                                go_simp
                                first
                                | exact ⟨Ext.refl _, rfl⟩
                              clear hK K))
                refine wpX_stepQ (fun K hK => ?_)
                go_simp
                apply Exists.intro
                refine ⟨fun wq hwq => ?_, hK _ ?_⟩
                · have hcq := hwq.cellS
                  go_simp
                  exact ⟨Ext.refl _, HKQ.out.at _ (hX.trans hwq)⟩
                clear hK K
                repeat' (refine wpX_stepQ (fun K hK => ?_)
                         go_simp
                         try (rw [if_neg (by intro h; simp [undef] at h)])
                         try split
                         all_goals
                           first
                           | (refine hK _ ?_
                              clear hK K)
                           | (apply Exists.intro
                              refine ⟨fun wq hwq => ?_, hK _ ?_⟩
                              · have hcq := hwq.cellS
                                go_simp
                                first
                                | exact ⟨Ext.refl _, rfl⟩
                              clear hK K))
                refine wpX_stepQ (fun K hK => ?_)
                go_simp
                apply Exists.intro
                refine ⟨fun wq hwq => ?_, hK _ ?_⟩
                · have hcq := hwq.cellS
                  go_simp
                  exact ⟨Ext.refl _, HKR.out.at _ (hX.trans hwq)⟩
                clear hK K
                repeat' (refine wpX_stepQ (fun K hK => ?_)
                         go_simp
                         try (rw [if_neg (by intro h; simp [undef] at h)])
                         try split
                         all_goals
                           first
                           | (refine hK _ ?_
                              clear hK K)
                           | (apply Exists.intro
                              refine ⟨fun wq hwq => ?_, hK _ ?_⟩
                              · have hcq := hwq.cellS
                                go_simp
                                first
                                | exact ⟨Ext.refl _, rfl⟩
                              clear hK K))
                refine wpX_stepQ (fun K hK => ?_)
                go_simp
                apply Exists.intro
                refine ⟨fun wq hwq => ?_, hK _ ?_⟩
                · have hcq := hwq.cellS
                  go_simp
                  exact ⟨Ext.refl _, HKZ.out.at _ (hX.trans hwq)⟩
                clear hK K
                repeat' (refine wpX_stepQ (fun K hK => ?_)
                         go_simp
                         try (rw [if_neg (by intro h; simp [undef] at h)])
                         try split
                         all_goals
                           first
                           | (refine hK _ ?_
                              clear hK K)
                           | (apply Exists.intro
                              refine ⟨fun wq hwq => ?_, hK _ ?_⟩
                              · have hcq := hwq.cellS
                                go_simp
                                first
                                | exact ⟨Ext.refl _, rfl⟩
                              clear hK K))
                refine wpX_nil (fun wz hwz => ?_)
                go_wp2
                exact ⟨⟨l + 1, hl1, by go_num, hwr.trans hwz⟩, by simp [intOf]; omega⟩
            · have e1 : ((k : Int) != (l : Int)) = true := by rw [bne_iff_ne]; omega
              have y1 : IntKind.i64.wrap (P1 + P2) = V := by rw [htt hkl]; exact IntWalk.i64_in _ (by omega)
              clear htt hkl
              as_aux_lemma =>
                go_wp2
                refine wp_region_X (by kernel_rfl) (by kernel_rfl) ?_
                repeat' (refine wpX_stepQ (fun K hK => ?_)
                         go_simp
                         try (rw [if_neg (by intro h; simp [undef] at h)])
                         try split
                         all_goals
                           first
                           | (refine hK _ ?_
                              clear hK K)
                           | (apply Exists.intro
                              refine ⟨fun wq hwq => ?_, hK _ ?_⟩
                              · have hcq := hwq.cellS
                                go_simp
                                first
                                | exact ⟨Ext.refl _, rfl⟩
                              clear hK K))
                refine wpX_stepQ (fun K hK => ?_)
                go_simp
                apply Exists.intro
                refine ⟨fun wq hwq => ?_, hK _ ?_⟩
                · have hcq := hwq.cellS
                  go_simp
                  exact ⟨Ext.refl _, HP1.out.at _ (hX.trans hwq)⟩
                clear hK K
                repeat' (refine wpX_stepQ (fun K hK => ?_)
                         go_simp
                         try (rw [if_neg (by intro h; simp [undef] at h)])
                         try split
                         all_goals
                           first
                           | (refine hK _ ?_
                              clear hK K)
                           | (apply Exists.intro
                              refine ⟨fun wq hwq => ?_, hK _ ?_⟩
                              · have hcq := hwq.cellS
                                go_simp
                                first
                                | exact ⟨Ext.refl _, rfl⟩
                              clear hK K))
                refine wpX_stepQ (fun K hK => ?_)
                go_simp
                apply Exists.intro
                refine ⟨fun wq hwq => ?_, hK _ ?_⟩
                · have hcq := hwq.cellS
                  go_simp
                  exact ⟨Ext.refl _, HP2.out.at _ (hX.trans hwq)⟩
                clear hK K
                repeat' (refine wpX_stepQ (fun K hK => ?_)
                         go_simp
                         try (rw [if_neg (by intro h; simp [undef] at h)])
                         try split
                         all_goals
                           first
                           | (refine hK _ ?_
                              clear hK K)
                           | (apply Exists.intro
                              refine ⟨fun wq hwq => ?_, hK _ ?_⟩
                              · have hcq := hwq.cellS
                                go_simp
                                first
                                | exact ⟨Ext.refl _, rfl⟩
                              clear hK K))
                refine wpX_stepQ (fun K hK => ?_)
                go_simp
                apply Exists.intro
                refine ⟨fun wq hwq => ?_, hK _ ?_⟩
                · have hcq := hwq.cellS
                  go_simp
                  exact ⟨Ext.refl _, HK2.out.at _ (hX.trans hwq)⟩
                clear hK K
                repeat' (refine wpX_stepQ (fun K hK => ?_)
                         go_simp
                         try (rw [if_neg (by intro h; simp [undef] at h)])
                         try split
                         all_goals
                           first
                           | (refine hK _ ?_
                              clear hK K)
                           | (apply Exists.intro
                              refine ⟨fun wq hwq => ?_, hK _ ?_⟩
                              · have hcq := hwq.cellS
                                go_simp
                                first
                                | exact ⟨Ext.refl _, rfl⟩
                              clear hK K))
                refine wpX_stepQ (fun K hK => ?_)
                go_simp
                apply Exists.intro
                refine ⟨fun wq hwq => ?_, hK _ ?_⟩
                · have hcq := hwq.cellS
                  go_simp
                  exact ⟨Ext.refl _, HKQ.out.at _ (hX.trans hwq)⟩
                clear hK K
                repeat' (refine wpX_stepQ (fun K hK => ?_)
                         go_simp
                         try (rw [if_neg (by intro h; simp [undef] at h)])
                         try split
                         all_goals
                           first
                           | (refine hK _ ?_
                              clear hK K)
                           | (apply Exists.intro
                              refine ⟨fun wq hwq => ?_, hK _ ?_⟩
                              · have hcq := hwq.cellS
                                go_simp
                                first
                                | exact ⟨Ext.refl _, rfl⟩
                              clear hK K))
                refine wpX_stepQ (fun K hK => ?_)
                go_simp
                apply Exists.intro
                refine ⟨fun wq hwq => ?_, hK _ ?_⟩
                · have hcq := hwq.cellS
                  go_simp
                  exact ⟨Ext.refl _, HKR.out.at _ (hX.trans hwq)⟩
                clear hK K
                repeat' (refine wpX_stepQ (fun K hK => ?_)
                         go_simp
                         try (rw [if_neg (by intro h; simp [undef] at h)])
                         try split
                         all_goals
                           first
                           | (refine hK _ ?_
                              clear hK K)
                           | (apply Exists.intro
                              refine ⟨fun wq hwq => ?_, hK _ ?_⟩
                              · have hcq := hwq.cellS
                                go_simp
                                first
                                | exact ⟨Ext.refl _, rfl⟩
                              clear hK K))
                refine wpX_stepQ (fun K hK => ?_)
                go_simp
                apply Exists.intro
                refine ⟨fun wq hwq => ?_, hK _ ?_⟩
                · have hcq := hwq.cellS
                  go_simp
                  exact ⟨Ext.refl _, HKZ.out.at _ (hX.trans hwq)⟩
                clear hK K
                repeat' (refine wpX_stepQ (fun K hK => ?_)
                         go_simp
                         try (rw [if_neg (by intro h; simp [undef] at h)])
                         try split
                         all_goals
                           first
                           | (refine hK _ ?_
                              clear hK K)
                           | (apply Exists.intro
                              refine ⟨fun wq hwq => ?_, hK _ ?_⟩
                              · have hcq := hwq.cellS
                                go_simp
                                first
                                | exact ⟨Ext.refl _, rfl⟩
                              clear hK K))
                refine wpX_nil (fun wz hwz => ?_)
                go_wp2
                exact ⟨⟨l + 1, hl1, by go_num, hwr.trans hwz⟩, by simp [intOf]; omega⟩
          · go_wp2
            exact ⟨⟨k + 1, hk1, by go_num, hEr⟩, by simp [intOf]; omega⟩
      · have q0 := hwr.keep q0
        replace q1 := hwr.keep q1
        have HPOK : Hid (∀ W, Ext wb W → Calls Try.prog 17 #[.agg #[.int .i64 n, .slice a' vs.length c']] W fun e w' => e = .returned (.bool true) ∧ Ext W w') := hide (fun W hW => by
          have h := prof_impl W n a' c' vs (hRV.ext (HE13.out.trans hW))
          rw [H0.out] at h
          exact h)
        have y1 : wrap64 ((n : Int) - 1) = (n : Int) - 1 := IntWalk.wrap64_in _ (by omega)
        replace hwf := (hwf.trans HE13.out).trans hwr
        have hRw := (hRV.ext HE13.out).ext hwr
        clear HMG HMQ HMR HMZ HPC HTOT HPB HNC HROW m0 m1 r0 r1 z0 z1
        by_cases hn1 : n = 1
        · have HD : Hid (∀ W, Calls Try.prog 16 #[.agg #[.int .i64 n, .slice a' vs.length c'], .int .i64 ((n : Int) - 1)] W fun e w' => e = .returned (.tuple #[.agg #[.int .i64 0, .slice none 0 0], .bool false]) ∧ Ext W w') := hide (fun W => by
            subst hn1
            exact drp_no2A W a' c' vs 0 (inR_iff.2 (by rw [IntWalk.wrap64_in _ (by omega)]; omega)))
          have t1 : ¬ (1 : Int) < (n : Int) := by omega
          clear hn1 HDR hRw
          go_wp2_with fail
          refine (HD.out _).mono ?_
          rintro e w20 ⟨rfl, hw20⟩
          replace q0 := hw20.keep q0
          replace q1 := hw20.keep q1
          replace hwr := hwr.trans hw20
          clear y1 HD
          as_aux_lemma =>
            go_wp2
            refine wp_region_X (by kernel_rfl) (by kernel_rfl) ?_
            repeat' (refine wpX_stepQ (fun K hK => ?_)
                     go_simp
                     try (rw [if_neg (by intro h; simp [undef] at h)])
                     try split
                     all_goals
                       first
                       | (refine hK _ ?_
                          clear hK K)
                       | (apply Exists.intro
                          refine ⟨fun wq hwq => ?_, hK _ ?_⟩
                          · have hcq := hwq.cellS
                            go_simp
                            first
                            | exact ⟨Ext.refl _, rfl⟩
                          clear hK K))
            refine wpX_stepQ (fun K hK => ?_)
            go_simp
            apply Exists.intro
            refine ⟨fun wq hwq => ?_, hK _ ?_⟩
            · have hcq := hwq.cellS
              go_simp
              exact ⟨Ext.refl _, HPOK.out _ (hwr.trans (by repeat (first | exact Ext.refl _ | assumption | refine Ext.alloc ?_ _ | refine Ext.drew ?_ | refine Ext.trans ?_ (by assumption))))⟩
            clear hK K
            repeat' (refine wpX_stepQ (fun K hK => ?_)
                     go_simp
                     try (rw [if_neg (by intro h; simp [undef] at h)])
                     try split
                     all_goals
                       first
                       | (refine hK _ ?_
                          clear hK K)
                       | (apply Exists.intro
                          refine ⟨fun wq hwq => ?_, hK _ ?_⟩
                          · have hcq := hwq.cellS
                            go_simp
                            first
                            | exact ⟨Ext.refl _, rfl⟩
                          clear hK K))
            refine wpX_nil (fun wz hwz => ?_)
            go_wp2
            go_ret
            exact ⟨ret_bool (by rw [decide_eq_false (by omega)]; rfl), (hwf.trans hw20).trans (by repeat (first | exact Ext.refl _ | assumption | refine Ext.alloc ?_ _ | refine Ext.drew ?_ | refine Ext.trans ?_ (by assumption)))⟩
        · have hd := fun W (hW : Ext wr W) => dropP_impl W (n : Int) a' c' vs ((n : Int) - 1) (hRw.ext hW) H0.out (by omega) (by omega)
          have HD := hide hd
          have t1 : (1 : Int) < (n : Int) := by omega
          clear hn1 hd
          go_wp2_with fail
          refine (HD.out _ (by repeat (first | exact Ext.refl _ | assumption | refine Ext.alloc ?_ _ | refine Ext.drew ?_ | refine Ext.trans ?_ (by assumption)))).mono ?_
          rintro e w20 ⟨v, es, rfl, hl, hm, hw20⟩
          obtain ⟨ad, cd, rfl, _⟩ := hl.form
          have hRd := RowsV.rd hl.1 hl.2
          rw [hm] at hRd
          have hRd : RdV w20 ad (mapV (dropL ((n : Int) - 1)) vs) := hRd
          have hel : es.length = vs.length := by
            have := congrArg List.length hm
            unfold vtsOf at this
            rw [List.length_map, List.length_map] at this
            exact this
          rw [hel]
          replace q0 := hw20.keep q0
          replace q1 := hw20.keep q1
          replace hwr := hwr.trans hw20
          have x0 := new0 w20 (.int .i64 ((n : Int) - 1)) [.slice ad vs.length cd] 26
          have x1 := new1 w20 (.int .i64 ((n : Int) - 1)) (.slice ad vs.length cd) [] 26
          clear y1 HD hl hm hel
          by_cases hn3 : 3 ≤ n
          · have HD0 : Hid (∀ W, Ext w20 W → Calls Try.prog 14 #[.agg #[.int .i64 ((n : Int) - 1), .slice ad vs.length cd], .int .i64 0, .int .i64 1] W fun e w' => e = .returned (.int .i64 (marginV vs 0 1)) ∧ Ext W w') := hide (fun W hW => by
              have h := margin_impl' W ((n : Int) - 1) ad cd _ 0 1 (hRd.ext hW)
              obtain ⟨h1, h2⟩ := HDR.out hn3
              have e : marginO ((n : Int) - 1) (mapV (dropL ((n : Int) - 1)) vs) 0 1 = marginV (mapV (dropL ((n : Int) - 1)) vs) 0 1 := by
                unfold marginO
                rw [h1, show hasB ((n : Int) - 1) 0 = true from inR_iff.2 (by omega), show hasB ((n : Int) - 1) 1 = true from inR_iff.2 (by omega)]
                rfl
              rw [e, h2, mapV_len] at h
              exact h)
            have HP0 : Hid (∀ W, Ext w20 W → Calls Try.prog 14 #[.agg #[.int .i64 n, .slice a' vs.length c'], .int .i64 0, .int .i64 1] W fun e w' => e = .returned (.int .i64 (marginV vs 0 1)) ∧ Ext W w') := hide (fun W hW => by
              have h := margin_impl' W n a' c' vs 0 1 (hRw.ext (hw20.trans hW))
              have e : marginO n vs 0 1 = marginV vs 0 1 := by
                unfold marginO
                rw [H0.out, show hasB (n : Int) 0 = true from inR_iff.2 (by omega), show hasB (n : Int) 1 = true from inR_iff.2 (by omega)]
                rfl
              rw [e] at h
              exact h)
            have t3 : ¬ (n : Int) < 3 := by omega
            clear hn3 hRd hRw HDR
            generalize marginV vs 0 1 = K at HD0 HP0
            as_aux_lemma =>
              go_wp2
              refine wp_region_X (by kernel_rfl) (by kernel_rfl) ?_
              repeat' (refine wpX_stepQ (fun K hK => ?_)
                       go_simp
                       try (rw [if_neg (by intro h; simp [undef] at h)])
                       try split
                       all_goals
                         first
                         | (refine hK _ ?_
                            clear hK K)
                         | (apply Exists.intro
                            refine ⟨fun wq hwq => ?_, hK _ ?_⟩
                            · have hcq := hwq.cellS
                              go_simp
                              first
                              | exact ⟨Ext.refl _, rfl⟩
                            clear hK K))
              refine wpX_stepQ (fun K hK => ?_)
              go_simp
              apply Exists.intro
              refine ⟨fun wq hwq => ?_, hK _ ?_⟩
              · have hcq := hwq.cellS
                go_simp
                exact ⟨Ext.refl _, HD0.out _ (by repeat (first | exact Ext.refl _ | assumption | refine Ext.alloc ?_ _ | refine Ext.drew ?_ | refine Ext.trans ?_ (by assumption)))⟩
              clear hK K
              repeat' (refine wpX_stepQ (fun K hK => ?_)
                       go_simp
                       try (rw [if_neg (by intro h; simp [undef] at h)])
                       try split
                       all_goals
                         first
                         | (refine hK _ ?_
                            clear hK K)
                         | (apply Exists.intro
                            refine ⟨fun wq hwq => ?_, hK _ ?_⟩
                            · have hcq := hwq.cellS
                              go_simp
                              first
                              | exact ⟨Ext.refl _, rfl⟩
                            clear hK K))
              refine wpX_stepQ (fun K hK => ?_)
              go_simp
              apply Exists.intro
              refine ⟨fun wq hwq => ?_, hK _ ?_⟩
              · have hcq := hwq.cellS
                go_simp
                exact ⟨Ext.refl _, HP0.out _ (by repeat (first | exact Ext.refl _ | assumption | refine Ext.alloc ?_ _ | refine Ext.drew ?_ | refine Ext.trans ?_ (by assumption)))⟩
              clear hK K
              repeat' (refine wpX_stepQ (fun K hK => ?_)
                       go_simp
                       try (rw [if_neg (by intro h; simp [undef] at h)])
                       try split
                       all_goals
                         first
                         | (refine hK _ ?_
                            clear hK K)
                         | (apply Exists.intro
                            refine ⟨fun wq hwq => ?_, hK _ ?_⟩
                            · have hcq := hwq.cellS
                              go_simp
                              first
                              | exact ⟨Ext.refl _, rfl⟩
                            clear hK K))
              refine wpX_stepQ (fun K hK => ?_)
              go_simp
              apply Exists.intro
              refine ⟨fun wq hwq => ?_, hK _ ?_⟩
              · have hcq := hwq.cellS
                go_simp
                exact ⟨Ext.refl _, HPOK.out _ (hwr.trans (by repeat (first | exact Ext.refl _ | assumption | refine Ext.alloc ?_ _ | refine Ext.drew ?_ | refine Ext.trans ?_ (by assumption))))⟩
              clear hK K
              repeat' (refine wpX_stepQ (fun K hK => ?_)
                       go_simp
                       try (rw [if_neg (by intro h; simp [undef] at h)])
                       try split
                       all_goals
                         first
                         | (refine hK _ ?_
                            clear hK K)
                         | (apply Exists.intro
                            refine ⟨fun wq hwq => ?_, hK _ ?_⟩
                            · have hcq := hwq.cellS
                              go_simp
                              first
                              | exact ⟨Ext.refl _, rfl⟩
                            clear hK K))
              refine wpX_nil (fun wz hwz => ?_)
              go_wp2
              go_ret
              exact ⟨rfl, (hwf.trans hw20).trans (by repeat (first | exact Ext.refl _ | assumption | refine Ext.alloc ?_ _ | refine Ext.drew ?_ | refine Ext.trans ?_ (by assumption)))⟩
          · have t3 : (n : Int) < 3 := by omega
            clear hn3 hRd hRw HDR
            as_aux_lemma =>
              go_wp2
              refine wp_region_X (by kernel_rfl) (by kernel_rfl) ?_
              repeat' (refine wpX_stepQ (fun K hK => ?_)
                       go_simp
                       try (rw [if_neg (by intro h; simp [undef] at h)])
                       try split
                       all_goals
                         first
                         | (refine hK _ ?_
                            clear hK K)
                         | (apply Exists.intro
                            refine ⟨fun wq hwq => ?_, hK _ ?_⟩
                            · have hcq := hwq.cellS
                              go_simp
                              first
                              | exact ⟨Ext.refl _, rfl⟩
                            clear hK K))
              refine wpX_stepQ (fun K hK => ?_)
              go_simp
              apply Exists.intro
              refine ⟨fun wq hwq => ?_, hK _ ?_⟩
              · have hcq := hwq.cellS
                go_simp
                exact ⟨Ext.refl _, HPOK.out _ (hwr.trans (by repeat (first | exact Ext.refl _ | assumption | refine Ext.alloc ?_ _ | refine Ext.drew ?_ | refine Ext.trans ?_ (by assumption))))⟩
              clear hK K
              repeat' (refine wpX_stepQ (fun K hK => ?_)
                       go_simp
                       try (rw [if_neg (by intro h; simp [undef] at h)])
                       try split
                       all_goals
                         first
                         | (refine hK _ ?_
                            clear hK K)
                         | (apply Exists.intro
                            refine ⟨fun wq hwq => ?_, hK _ ?_⟩
                            · have hcq := hwq.cellS
                              go_simp
                              first
                              | exact ⟨Ext.refl _, rfl⟩
                            clear hK K))
              refine wpX_nil (fun wz hwz => ?_)
              go_wp2
              go_ret
              exact ⟨rfl, (hwf.trans hw20).trans (by repeat (first | exact Ext.refl _ | assumption | refine Ext.alloc ?_ _ | refine Ext.drew ?_ | refine Ext.trans ?_ (by assumption)))⟩
  · go_enter Try.func3, Try.ntmps3
    go_wp2
    go_ret
    exact ⟨rfl, (by repeat (first | exact Ext.refl _ | assumption | refine Ext.alloc ?_ _ | refine Ext.drew ?_ | refine Ext.trans ?_ (by assumption)))⟩

section
open Go.ChangeShapes Go.WideShapes Go.ChangeAt Go.RowKit Go.Joins Go.Deep
set_option maxRecDepth 100000 in
theorem fnProfiles_lifted (os : Os) (started : os.Started) (H : Type) (enc : TypeId × Value → H) :
    ReturnsInHanded {} Try.checked os 3 .any (Rows.fnProfilesSpec.pre6 enc Try.prog Try.f3 Rows.fnProfilesRow.domain false) (Rows.fnProfilesSpec.post enc Try.prog Try.f3 false true false false) := by
  refine returnsInHanded_of_change (C := Try.checked) own started (by kernel_rfl) Try.func3
    (ChangeSpec.witness6 (enc := enc) (C := Try.checked) false ⟨#[], #[.slice Option.none 0 0], []⟩ 8 (by kernel_rfl) (by kernel_rfl) (by kernel_rfl) (by kernel_rfl)) ?_
  intro W base args ds gs before hval0 hW hcnd _
  have hval : ∀ (j : Nat) t v, Try.f3.params[j]? = some t → args[j]? = some v → Value.okWide Try.prog W .any base t v := hval0
  have hW' := hW
  obtain ⟨p, q, hA0, hV, rfl, hfz, hnd⟩ := hW
  have hA : DataW.TrodAll enc Try.prog W 0 (fun _ => true) true Try.f3.params.toList args.toList ds p := hA0
  rw [Try.params3] at hA hval
  obtain ⟨v0, vs0, d0, ds0, p0, q0, hargs, rfl, rfl, h0, r0⟩ := trodAll_cons hA
  obtain ⟨rfl, rfl, rfl⟩ := trodAll_nil r0
  obtain rfl : args = #[v0] := by cases args; simp_all
  obtain ⟨rfl, rfl⟩ := trodVars_none hV
  have k0 := h0
  have lt0 : ∀ x ∈ p0, x.block < W.heap.size := by obtain ⟨m, hm⟩ := k0; exact DataW.trod_lt m _ _ _ hm
  obtain ⟨a0, bs0, c0, rfl, hR0, hl0⟩ := openY (hval 0 22 v0 rfl rfl) h0
  clear hA0 hval0
  refine (prf_law W a0 c0 bs0 hR0 hl0).mono fun e W' ⟨he, bel⟩ => ?_
  subst he
  exact ⟨_, rfl, _, _, _, [], _, [], hW', trodAll_mk1 (shut_bool Try.underlying4 _), (trodAll_cons_mk (Below.trod laidOut (by kernel_rfl) (of_decide_eq_true (by kernel_rfl)) k0 bel lt0) trodAll_mk0), rfl, bel.frame _, fun h => by cases h⟩

set_option maxRecDepth 100000 in
theorem fnProfiles_holds : Rows.FnProfilesSaid :=
  OpenClaim.holds_of_wide 3 Try.f3 rfl rfl rfl rfl rfl rfl rfl ⟨rfl, rfl, rfl, rfl, rfl⟩ rfl rfl rfl rfl rfl (by kernel_rfl) Try.func3 (by kernel_rfl)
    (of_decide_eq_true (by kernel_rfl)) (by unfold Func.isWrapper; first | (rw [if_pos (by decide +kernel)]; kernel_rfl) | (rw [if_neg (by decide +kernel)]; exact ⟨rfl, rfl⟩))
    (fun os started H enc _ => fnProfiles_lifted os started H enc)
#print axioms fnProfiles_holds
end

end Go.Proofs.Ytkbbcglghfddjaa
