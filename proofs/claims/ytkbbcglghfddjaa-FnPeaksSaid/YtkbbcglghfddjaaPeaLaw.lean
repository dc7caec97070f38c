/- FnPeaks answers true at every input. -/
import Derived.Test.YtkbbcglghfddjaaCg5
import Derived.Test.YtkbbcglghfddjaaCg25
import Derived.Test.YtkbbcglghfddjaaCg1
import Derived.Test.YtkbbcglghfddjaaCg26
import Derived.Test.YtkbbcglghfddjaaCg23
import Derived.Test.YtkbbcglghfddjaaCg22
import Derived.Test.YtkbbcglghfddjaaCg13
namespace Go.Proofs.Ytkbbcglghfddjaa
open Go.RowKit

set_option maxRecDepth 100000 in
set_option maxHeartbeats 8000000 in
theorem pea_law (w : World) (a : Option Addr) (c : Nat) (bs : List Int) (hR : RdY w a bs) (_ : bs.length ≤ maxLen) :
    Calls Try.prog 4 #[.slice a bs.length c] w fun e w' => e = .returned (.bool true) ∧ Ext w w' := by
  by_cases hb : bs.length ≤ 1048576
  · go_enter Try.func4, Try.ntmps4
    go_wp2_with fail
    refine (mkpk_spec _ a c 0 bs (hR.ext (by repeat (first | exact Ext.refl _ | assumption | refine Ext.alloc ?_ _ | refine Ext.drew ?_ | refine Ext.trans ?_ (by assumption)))) hb (by omega)).mono ?_
    rintro e w1 ⟨m, L0, a', aa, c', ca, rfl, hM⟩
    obtain ⟨ax, vs, rfl, hRV, hpk, v1, v5, v6, hRA, hal, hca, hcap, hw1⟩ := hM
    have q0 := new0 w1 (.int .i64 m) [.slice a' vs.length c'] 26
    have q1 := new1 w1 (.int .i64 m) (.slice a' vs.length c') [] 26
    have hE := Ext.new w1 (.cells #[.int .i64 m, .slice a' vs.length c'] 26)
    have hF := pea_f hpk v1
    have hpk0 := hpk
    simp only [pkpB, Bool.and_eq_true] at hpk0
    obtain ⟨h0, ha, _⟩ := hpk0
    have hsz := prof_size h0
    have m1 : 1 ≤ m := by omega
    have m5 : m ≤ 5 := by omega
    have HS := hide (prof_small h0)
    have hw := hw1.trans hE
    have HNUM : Hid (∀ W', Ext w W' → Calls Try.prog 5 #[.slice a bs.length c, .int .i64 80] W' fun e w' => ∃ x : Nat, e = .returned (.int .i64 x) ∧ x ≤ 65536 ∧ Ext W' w') := hide (fun W' hW' => numY_spec W' a c 80 bs (hR.ext hW') hb (by omega))
    go_wp2_with fail
    replace hRV := hRV.ext hE
    replace hRA := hRA.ext hE
    generalize w1.alloc (.cells #[.int .i64 m, .slice a' vs.length c'] 26) = W0 at hw hRV hRA q0 q1 ⊢
    clear hR hb hw1 hE v5 v6 hcap hsz
    obtain ⟨A, hA, hmd, hmar, hwin⟩ := hF.med
    have HMD : Hid (ValC 19 #[.agg #[.int .i64 m, .slice a' vs.length c'], .slice aa m ca] W0 (.int .i64 A)) := hide (fun W hW => by
      have h := md_impl W m a' aa c' ca vs ax (hRV.ext hW) (hRA.ext hW) (by omega)
      rw [hmd, hal] at h
      exact h)
    have HAXI : Hid (∀ W, Ext W0 W → Calls Try.prog 20 #[.agg #[.int .i64 m, .slice a' vs.length c']] W fun e w' => ∃ x ax2 cx, e = .returned (.tuple #[.slice ax2 m cx, .bool true]) ∧ RdI w' ax2 x ∧ pkpB m x vs = true ∧ m ≤ cx ∧ x.length = m ∧ Ext W w') := hide (fun W hW => axis_impl W m a' c' vs (hRV.ext hW) h0 ax hpk)
    have HPR : Hid (∀ W, Ext W0 W → Calls Try.prog 21 #[.slice aa m ca] W fun e w' => ∃ v es, e = .returned v ∧ RowsE w' W.heap.size v es ∧ es.map RowE.xs = (allO m).filter (pkO ax) ∧ (∀ e ∈ es, e.n = e.xs.length ∧ e.n ≤ e.c ∧ RdI w' e.a e.xs) ∧ Ext W w') := hide (fun W hW => pkrI_impl W m aa ca ax m1 m5 (hRA.ext hW) ha hca)
    have HIP : Hid (ValC 22 #[.agg #[.int .i64 m, .slice a' vs.length c'], .slice aa m ca] W0 (.bool true)) := hide (fun W hW => by
      have h := pkp_impl W m a' aa c' ca vs ax (hRV.ext hW) (hRA.ext hW) (by omega)
      rw [hpk, hal] at h
      exact h)
    have HWO : Hid (ValC 24 #[.agg #[.int .i64 m, .slice a' vs.length c']] W0 (.bool true)) := hide (fun W hW => by
      have h := wor_impl W m a' c' vs (hRV.ext hW)
      rw [hF.wor] at h
      exact h)
    have HPKS : Hid (∀ W, Ext W0 W → Calls Try.prog 26 #[.agg #[.int .i64 m, .slice a' vs.length c'], .slice aa m ca] W fun e w' => ∃ ap cp, e = .returned (.slice ap (pksO m ax vs).length cp) ∧ RdI w' ap (pksO m ax vs) ∧ Ext W w') := hide (fun W hW => by
      have h := pks_impl W m a' aa c' ca vs ax (hRV.ext hW) (hRA.ext hW) (by omega)
      rw [hal] at h
      exact h.mono fun e w' ⟨v, h1, h2, h3⟩ => by
        obtain ⟨ar, cr, hv, _, _, hRr, _⟩ := h2.val
        exact ⟨ar, cr, by rw [h1, hv], hRr, h3⟩)
    have HSUM : Hid (∀ (ap : Option Addr) (cp : Nat) (W1 : World), RdI W1 ap (pksO m ax vs) → ValC 25 #[.slice ap (pksO m ax vs).length cp] W1 (.int .i64 (allV vs))) := hide (fun ap cp W1 hr W hW => by
      have h := sum_law W ap _ cp (pksO m ax vs) rfl (hr.ext hW) (by have := pks_len m ax vs; omega) (fun x hx => by
        obtain ⟨j, hj⟩ := List.mem_iff_getElem?.1 hx
        have := pks_bd hj
        omega)
      rw [hF.sum] at h
      exact h)
    have HCO : Hid (ValC 7 #[.agg #[.int .i64 m, .slice a' vs.length c']] W0 (.int .i64 (allV vs))) := hide (fun W hW => by
      have := count_impl W m a' c' vs (hRV.ext hW)
      rw [if_pos h0] at this
      exact this)
    have HMG : Hid (∀ x : Nat, x < m → ValC 14 #[.agg #[.int .i64 m, .slice a' vs.length c'], .int .i64 x, .int .i64 A] W0 (.int .i64 (marginV vs x A))) := hide (fun x hx W hW => by
      have h := margin_impl' W m a' c' vs x A (hRV.ext hW)
      rw [margO_eq h0 hx hA] at h
      exact h)
    have HMAR := hide hmar
    have HWIN : Hid (allV vs % 2 = 1 → ValC 27 #[.agg #[.int .i64 m, .slice a' vs.length c']] W0 (.int .i64 A)) := hide (fun ho W hW => by
      have h := winner_impl W m a' c' vs (hRV.ext hW)
      rw [hwin ho] at h
      exact h)
    have HTR : Hid (allV vs % 2 = 1 → ValC 28 #[.agg #[.int .i64 m, .slice a' vs.length c']] W0 (.bool true)) := hide (fun ho W hW => by
      have h := trans_impl W m a' c' vs (hRV.ext hW)
      rw [hF.tr ho] at h
      exact h)
    have HCP := hide (fun W => cpk_impl W m m1 m5)
    have hlen := pk_count ha m1 m5
    have h16 : 2 ^ (m - 1) ≤ 2 ^ 4 := Nat.pow_le_pow_right (by decide) (by omega)
    have h01 : 1 ≤ 2 ^ (m - 1) := Nat.pow_pos (by decide)
    have hpn : ((2 : Int) ^ (m - 1)) = ((2 ^ (m - 1) : Nat) : Int) := by simp
    obtain ⟨L, hL⟩ : ∃ L : Nat, L = 2 ^ (m - 1) := ⟨_, rfl⟩
    rw [← hL] at HCP hlen h16 h01 hpn
    have Z1 : Hid (IntKind.i64.wrap ((2 : Int) ^ (m - 1)) = (L : Int)) := hide (by rw [hpn]; exact IntWalk.i64_in _ (by omega))
    have hpeak : ∀ r, r ∈ (allO m).filter (pkO ax) → rkOk m r = true ∧ pkO ax r = true ∧ pkO ax.reverse r = true := fun r hr => by
      obtain ⟨h1, h2⟩ := List.mem_filter.1 hr
      have h3 := (allO_mem m1 m5).1 h1
      exact ⟨h3, h2, (pk_r ha m1 m5 h3 h2).rev⟩
    have HPEAK := hide hpeak
    have hrev : rkOk m ax.reverse = true := rk_of_perm m1 m5 ((List.reverse_perm ax).trans (by rw [iotaL_up]; exact rk_perm ha))
    have HREV : Hid (∀ W, Ext W0 W → Calls Try.prog 30 #[.slice aa m ca] W fun e w' => ∃ ar cr, e = .returned (.slice ar m cr) ∧ RdI w' ar ax.reverse ∧ m ≤ cr ∧ Ext W w') := hide (fun W hW => (rev_impl W aa ca m ax hal m1 m5 (hRA.ext hW)).mono fun e w' ⟨v, h1, h2, h3⟩ => by
      obtain ⟨ar, cr, hv, hcr, _, hRr, _⟩ := h2.val
      rw [List.length_reverse, hal] at hv hcr
      exact ⟨ar, cr, by rw [h1, hv], hRr, hcr, h3⟩)
    have HPK : Hid (∀ (W : World) (r : List Int) (a3 : Option Addr) (c3 : Nat), r ∈ (allO m).filter (pkO ax) → RdI W a3 r → m ≤ c3 → Ext W0 W → ValC 29 #[.slice a3 m c3, .slice aa m ca] W (.bool true)) := hide (fun W r a3 c3 hr hRr hc3 hW W' hW' => by
      obtain ⟨h1, h2, _⟩ := hpeak r hr
      have hl : r.length = m := by have := (rk_len h1).1; omega
      have h := pk_impl W' a3 aa c3 ca m r ax (hRr.ext hW') (by omega) (hRA.ext (hW.trans hW')) (by omega) h1 ha
      rw [h2, hl, hal] at h
      exact h)
    have HPKR : Hid (∀ (W : World) (r : List Int) (a3 ar : Option Addr) (c3 cr : Nat), r ∈ (allO m).filter (pkO ax) → RdI W a3 r → m ≤ c3 → RdI W ar ax.reverse → m ≤ cr → ValC 29 #[.slice a3 m c3, .slice ar m cr] W (.bool true)) := hide (fun W r a3 ar c3 cr hr hRr hc3 hRv hcr W' hW' => by
      obtain ⟨h1, _, h2⟩ := hpeak r hr
      have hl : r.length = m := by have := (rk_len h1).1; omega
      have hl2 : ax.reverse.length = m := by rw [List.length_reverse]; exact hal
      have h := pk_impl W' a3 ar c3 cr m r ax.reverse (hRr.ext hW') (by omega) (hRv.ext hW') (by omega) h1 hrev
      rw [h2, hl, hl2] at h
      exact h)
    have HSELF := hide (List.mem_filter.2 ⟨(allO_mem m1 m5).2 ha, pk_self ha m1 m5⟩)
    have hV0 := sumV_bd' HS.out (p := fun _ => true)
    have HRA := hide hRA
    have HCA := hide hca
    have HRVX := hide hRV
    have HIP2 : Hid (∀ (W : World) (x : List Int) (ax2 : Option Addr) (cx : Nat), Ext W0 W → RdI W ax2 x → pkpB m x vs = true → m ≤ cx → x.length = m → ValC 22 #[.agg #[.int .i64 m, .slice a' vs.length c'], .slice ax2 m cx] W (.bool true)) := hide (fun W x ax2 cx hW hx hp hc hl W' hW' => by
      have h := pkp_impl W' m a' ax2 c' cx vs x (hRV.ext (hW.trans hW')) (hx.ext hW') (by omega)
      rw [hp, hl] at h
      exact h)
    clear hF hmd hmar hwin hpk ha h0 hRV hRA hal hlen h16 hpn hrev hpeak hca v1
    obtain ⟨V, hV⟩ : ∃ V : Nat, allV vs = V := ⟨(allV vs).toNat, by unfold allV; omega⟩
    rw [hV] at HSUM HCO HWIN HTR
    clear hV hV0
    refine (HMD.out.at _ (Ext.refl _)).mono ?_
    rintro e w2 ⟨rfl, hw2⟩
    replace q0 := hw2.keep q0
    replace q1 := hw2.keep q1
    clear HMD
    go_wp2_with fail
    refine (HAXI.out _ hw2).mono ?_
    rintro e w3 ⟨x, ax2, cx, rfl, hRx, hpx, hcx, hxl, hw3⟩
    have hE3 := hw2.trans hw3
    replace q0 := hw3.keep q0
    replace q1 := hw3.keep q1
    have HIX := hide (HIP2.out w3 x ax2 cx hE3 hRx hpx hcx hxl)
    clear HAXI HIP2 hw2 hw3 hRx hpx hcx hxl
    go_wp2_with fail
    refine (HPR.out _ hE3).mono ?_
    rintro e w4 ⟨v, es, rfl, hr0, hm0, he0, hw4⟩
    have hE4 := hE3.trans hw4
    replace q0 := hw4.keep q0
    replace q1 := hw4.keep q1
    have hel : es.length = L := by
      have h1 := congrArg List.length hm0
      rw [List.length_map, pk_count' HSELF.out m1 m5 hL] at h1
      exact h1
    obtain ⟨al, cl, rfl, _, _, hlq⟩ := hr0.val
    obtain ⟨gl, rfl, _, _⟩ := hlq (List.ne_nil_of_length_pos (by omega))
    rw [hel] at hr0 ⊢
    have HROWS : Hid (∀ q : Nat, q < L → ∃ r ar cr, w4.cell? ⟨gl, q, none⟩ = some (.slice ar m cr) ∧ r ∈ (allO m).filter (pkO ax) ∧ RdI w4 ar r ∧ m ≤ cr) := hide (fun q hq => by
      obtain ⟨e, he⟩ := at_of_lt (xs := es) (k := q) (by omega)
      obtain ⟨g9, hg9, d0⟩ := hr0.at_ he
      injection hg9 with hg9
      injection hg9 with hg9
      subst hg9
      have hme := List.mem_of_getElem? he
      obtain ⟨e1, e2, e3⟩ := he0 e hme
      have hmr : e.xs ∈ (allO m).filter (pkO ax) := by rw [← hm0]; exact List.mem_map_of_mem hme
      have hl : e.xs.length = m := by have := (rk_len (HPEAK.out e.xs hmr).1).1; omega
      rw [e1, hl] at d0
      exact ⟨e.xs, e.a, e.c, d0, hmr, e3, by omega⟩)
    have HX4 := hide (fun W (hW : Ext w4 W) => HIX.out.at W (hw4.trans hW))
    clear hr0 hm0 he0 hlq hel hE3 hw4 HPR HIX hL
    obtain ⟨wb, hwb⟩ : ∃ wb : World, wb = w4 := ⟨_, rfl⟩
    subst hwb
    have HE4 := hide hE4
    have y1 : IntKind.i64.wrap ((m : Int) - 1) = (m : Int) - 1 := IntWalk.i64_in _ (by omega)
    have y2 := Z1.out
    have t1 : ¬ (A : Int) < 0 := by omega
    have hw := hw.trans hE4
    clear hE4
    go_wp2_with fail
    refine wp_region_O (0 :: 1 :: 2 :: 3 :: 4 :: 5 :: 6 :: 7 :: 8 :: 9 :: 10 :: 11 :: 12 :: 13 :: 14 :: 15 :: 16 :: 17 :: 18 :: 19 :: 20 :: 21 :: 22 :: 23 :: 24 :: 25 :: 26 :: 27 :: 28 :: 29 :: 30 :: 31 :: 32 :: 33 :: 34 :: 35 :: 36 :: 37 :: 38 :: 39 :: 40 :: 43 :: 41 :: 42 :: 44 :: 45 :: 46 :: []) (by kernel_rfl) rfl (by kernel_rfl) ?_
    repeat' (refine wpO_stepQ rfl (fun K hK => ?_)
             go_simp
             try (rw [if_neg (by intro h; simp [undef] at h)])
             try split
             all_goals
               first
               | (refine hK _ ?_
                  clear hK K)
               | (apply Exists.intro
                  refine ⟨fun wq hwq => ?_, hK _ ?_⟩
                  · have hcq := hwq.cellS
                    go_simp
                    first
                    | exact ⟨Ext.refl _, rfl⟩
                  clear hK K))
    refine wpO_stepQ rfl (fun K hK => ?_)
    go_simp
    apply Exists.intro
    refine ⟨fun wq hwq => ?_, hK _ ?_⟩
    · have hcq := hwq.cellS
      go_simp
      exact ⟨Ext.refl _, HIP.out.at _ (HE4.out.trans hwq)⟩
    clear hK K
    repeat' (refine wpO_stepQ rfl (fun K hK => ?_)
             go_simp
             try (rw [if_neg (by intro h; simp [undef] at h)])
             try split
             all_goals
               first
               | (refine hK _ ?_
                  clear hK K)
               | (apply Exists.intro
                  refine ⟨fun wq hwq => ?_, hK _ ?_⟩
                  · have hcq := hwq.cellS
                    go_simp
                    first
                    | exact ⟨Ext.refl _, rfl⟩
                  clear hK K))
    refine wpO_stepQ rfl (fun K hK => ?_)
    go_simp
    apply Exists.intro
    refine ⟨fun wq hwq => ?_, hK _ ?_⟩
    · have hcq := hwq.cellS
      go_simp
      exact ⟨Ext.refl _, HX4.out _ hwq⟩
    clear hK K
    repeat' (refine wpO_stepQ rfl (fun K hK => ?_)
             go_simp
             try (rw [if_neg (by intro h; simp [undef] at h)])
             try split
             all_goals
               first
               | (refine hK _ ?_
                  clear hK K)
               | (apply Exists.intro
                  refine ⟨fun wq hwq => ?_, hK _ ?_⟩
                  · have hcq := hwq.cellS
                    go_simp
                    first
                    | exact ⟨Ext.refl _, rfl⟩
                  clear hK K))
    refine wpO_stepQ rfl (fun K hK => ?_)
    go_simp
    apply Exists.intro
    refine ⟨fun wq hwq => ?_, hK _ ?_⟩
    · have hcq := hwq.cellS
      go_simp
      exact ⟨Ext.refl _, HCP.out _⟩
    clear hK K
    repeat' (refine wpO_stepQ rfl (fun K hK => ?_)
             go_simp
             try (rw [if_neg (by intro h; simp [undef] at h)])
             try split
             all_goals
               first
               | (refine hK _ ?_
                  clear hK K)
               | (apply Exists.intro
                  refine ⟨fun wq hwq => ?_, hK _ ?_⟩
                  · have hcq := hwq.cellS
                    go_simp
                    first
                    | exact ⟨Ext.refl _, rfl⟩
                  clear hK K))
    refine wpO_stepQ rfl (fun K hK => ?_)
    go_simp
    apply Exists.intro
    refine ⟨fun wq hwq => ?_, hK _ ?_⟩
    · have hcq := hwq.cellS
      go_simp
      exact ⟨Ext.refl _, HWO.out.at _ (HE4.out.trans hwq)⟩
    clear hK K
    repeat' (refine wpO_stepQ rfl (fun K hK => ?_)
             go_simp
             try (rw [if_neg (by intro h; simp [undef] at h)])
             try split
             all_goals
               first
               | (refine hK _ ?_
                  clear hK K)
               | (apply Exists.intro
                  refine ⟨fun wq hwq => ?_, hK _ ?_⟩
                  · have hcq := hwq.cellS
                    go_simp
                    first
                    | exact ⟨Ext.refl _, rfl⟩
                  clear hK K))
    refine wpO_stepS rfl (by kernel_rfl) (fun K hK wq hwq => ?_)
    go_simp
    refine (HPKS.out _ (HE4.out.trans hwq)).mono ?_
    rintro e w11 ⟨ap, cp, rfl, hRp, hw11⟩
    refine ⟨hw11, hK _ _ ?_⟩
    clear hK K
    have hE11 := hwq.trans hw11
    replace q0 := hE11.keep q0
    replace q1 := hE11.keep q1
    have HSS := hide (HSUM.out ap cp w11 hRp)
    clear hwq hw11 hRp HSUM HPKS
    refine wpO_stepQ rfl (fun K hK => ?_)
    go_simp
    apply Exists.intro
    refine ⟨fun wq hwq => ?_, hK _ ?_⟩
    · have hcq := hwq.cellS
      go_simp
      exact ⟨Ext.refl _, HSS.out.at _ hwq⟩
    clear hK K
    repeat' (refine wpO_stepQ rfl (fun K hK => ?_)
             go_simp
             try (rw [if_neg (by intro h; simp [undef] at h)])
             try split
             all_goals
               first
               | (refine hK _ ?_
                  clear hK K)
               | (apply Exists.intro
                  refine ⟨fun wq hwq => ?_, hK _ ?_⟩
                  · have hcq := hwq.cellS
                    go_simp
                    first
                    | exact ⟨Ext.refl _, rfl⟩
                  clear hK K))
    refine wpO_stepQ rfl (fun K hK => ?_)
    go_simp
    apply Exists.intro
    refine ⟨fun wq hwq => ?_, hK _ ?_⟩
    · have hcq := hwq.cellS
      go_simp
      exact ⟨Ext.refl _, HCO.out.at _ (HE4.out.trans (hE11.trans hwq))⟩
    clear hK K
    repeat' (refine wpO_stepQ rfl (fun K hK => ?_)
             go_simp
             try (rw [if_neg (by intro h; simp [undef] at h)])
             try split
             all_goals
               first
               | (refine hK _ ?_
                  clear hK K)
               | (apply Exists.intro
                  refine ⟨fun wq hwq => ?_, hK _ ?_⟩
                  · have hcq := hwq.cellS
                    go_simp
                    first
                    | exact ⟨Ext.refl _, rfl⟩
                  clear hK K))
    refine wpO_nil (fun wz hwz => ?_)
    have hwf := (hw.trans hE11).trans hwz
    have hEz := hE11.trans hwz
    replace q0 := hwz.keep q0
    replace q1 := hwz.keep q1
    clear hE11 hwz y1 y2 HIP HX4 HWO HSS HCP
    go_wp2_with fail
    obtain ⟨wc, hwc⟩ : ∃ wc : World, wc = wz := ⟨_, rfl⟩
    subst hwc
    go_loopw [10] (fun i wr => ∃ k : Nat, k ≤ m ∧ i = .int .i64 k ∧ Ext wc wr) (fun i _ => m - (intOf i).toNat)
    case atStart => exact ⟨0, Nat.zero_le _, rfl, Ext.refl _⟩
    case round =>
      obtain ⟨k, hk, rfl, hwr⟩ := hrel
      replace q0 := hwr.keep q0
      replace q1 := hwr.keep q1
      have hEr := (HE4.out.trans hEz).trans hwr
      by_cases hkt : k < m
      · have HK := hide (HMG.out k hkt)
        have hmk := HMAR.out k hkt
        have t2 : ¬ (0 : Int) < marginV vs k A := by omega
        have hk1 : k + 1 ≤ m := by omega
        clear hmk
        generalize marginV vs k A = K at HK t2
        go_wp2_with fail
        refine (HK.out.at _ hEr).mono ?_
        rintro e w5 ⟨rfl, hw5⟩
        go_wp2
        exact ⟨⟨k + 1, hk1, by go_num, hwr.trans hw5⟩, by simp [intOf]; omega⟩
      · have hBr := hEz.trans hwr
        have hwr2 := hwf.trans hwr
        clear hwf hwr HMG HMAR
        go_wp2_with fail
        refine (HCO.out.at _ hEr).mono ?_
        rintro e w5 ⟨rfl, hw5⟩
        replace q0 := hw5.keep q0
        replace q1 := hw5.keep q1
        have hE5 := hEr.trans hw5
        have hB5 := hBr.trans hw5
        have hw5' := hwr2.trans hw5
        clear hEr hBr hwr2 hw5 HCO
        by_cases ho : (V : Int) % 2 = 1
        · have e1 : ((V : Int) % 2 == 1) = true := by rw [ho]; rfl
          have HW := hide (HWIN.out ho)
          have HT := hide (HTR.out ho)
          have e2 : ((A : Int) != (A : Int)) = false := by simp
          clear ho HWIN HTR
          go_wp2_with fail
          refine (HW.out.at _ hE5).mono ?_
          rintro e w6 ⟨rfl, hw6⟩
          replace q0 := hw6.keep q0
          replace q1 := hw6.keep q1
          go_wp2_with fail
          refine (HT.out.at _ (hE5.trans hw6)).mono ?_
          rintro e w7 ⟨rfl, hw7⟩
          have hEt := hE5.trans (hw6.trans hw7)
          have hBt := hB5.trans (hw6.trans hw7)
          have hwt := hw5'.trans (hw6.trans hw7)
          clear e1 e2 hE5 hB5 hw5' hw6 hw7 HW HT
          go_wp2_with fail
          refine (HNUM.out _ hwt).mono ?_
          rintro e w8 ⟨x8, rfl, _, hw8⟩
          have hLp : 0 < L := by omega
          have hq : (x8 : Int) % (L : Int) = ((x8 % L : Nat) : Int) := (Int.natCast_emod x8 L).symm
          have hqL := Nat.mod_lt x8 hLp
          obtain ⟨r, ar, cr, d0, hmr, hRr, hcr⟩ := HROWS.out _ hqL
          generalize x8 % L = q at hq hqL d0
          have hB8 := hBt.trans hw8
          have hE8 := hEt.trans hw8
          replace d0 := hB8.keep d0
          replace hRr := hRr.ext hB8
          have hL0 : ((L : Int) == 0) = false := by rw [beq_eq_false_iff_ne]; omega
          have HK1 := hide (HPK.out w8 r ar cr hmr hRr hcr hE8)
          have HRR := hide hRr
          have HMR := hide hmr
          have hwz := hwt.trans hw8
          clear hRr hmr hBt hEt hwt hw8 q0 q1 HROWS HNUM
          go_wp2_with fail
          clear hq hL0
          refine (HK1.out.at _ (Ext.refl _)).mono ?_
          rintro e w9 ⟨rfl, hw9⟩
          go_wp2_with fail
          refine (HREV.out _ (hE8.trans hw9)).mono ?_
          rintro e w10 ⟨av, cv, rfl, hRv, hcv, hw10⟩
          have HK2 := hide (HPKR.out w10 r ar av cr cv HMR.out (HRR.out.ext (hw9.trans hw10)) hcr hRv hcv)
          clear hRv
          go_wp2_with fail
          refine (HK2.out.at _ (Ext.refl _)).mono ?_
          rintro e w11 ⟨rfl, hw11⟩
          have hE11 := hE8.trans ((hw9.trans hw10).trans hw11)
          have HK3 := hide (HPK.out w11 ax aa ca HSELF.out (HRA.out.ext hE11) HCA.out hE11)
          go_wp2_with fail
          refine (HK3.out.at _ (Ext.refl _)).mono ?_
          rintro e w12 ⟨rfl, hw12⟩
          go_wp2
          go_ret
          exact ⟨rfl, hwz.trans (((hw9.trans hw10).trans hw11).trans hw12)⟩
        · have e1 : ((V : Int) % 2 == 1) = false := by rw [beq_eq_false_iff_ne]; exact ho
          have hEt := hE5
          have hBt := hB5
          have hwt := hw5'
          clear ho HWIN HTR hE5 hB5 hw5'
          go_wp2_with fail
          clear e1
          refine (HNUM.out _ hwt).mono ?_
          rintro e w8 ⟨x8, rfl, _, hw8⟩
          have hLp : 0 < L := by omega
          have hq : (x8 : Int) % (L : Int) = ((x8 % L : Nat) : Int) := (Int.natCast_emod x8 L).symm
          have hqL := Nat.mod_lt x8 hLp
          obtain ⟨r, ar, cr, d0, hmr, hRr, hcr⟩ := HROWS.out _ hqL
          generalize x8 % L = q at hq hqL d0
          have hB8 := hBt.trans hw8
          have hE8 := hEt.trans hw8
          replace d0 := hB8.keep d0
          replace hRr := hRr.ext hB8
          have hL0 : ((L : Int) == 0) = false := by rw [beq_eq_false_iff_ne]; omega
          have HK1 := hide (HPK.out w8 r ar cr hmr hRr hcr hE8)
          have HRR := hide hRr
          have HMR := hide hmr
          have hwz := hwt.trans hw8
          clear hRr hmr hBt hEt hwt hw8 q0 q1 HROWS HNUM
          go_wp2_with fail
          clear hq hL0
          refine (HK1.out.at _ (Ext.refl _)).mono ?_
          rintro e w9 ⟨rfl, hw9⟩
          go_wp2_with fail
          refine (HREV.out _ (hE8.trans hw9)).mono ?_
          rintro e w10 ⟨av, cv, rfl, hRv, hcv, hw10⟩
          have HK2 := hide (HPKR.out w10 r ar av cr cv HMR.out (HRR.out.ext (hw9.trans hw10)) hcr hRv hcv)
          clear hRv
          go_wp2_with fail
          refine (HK2.out.at _ (Ext.refl _)).mono ?_
          rintro e w11 ⟨rfl, hw11⟩
          have hE11 := hE8.trans ((hw9.trans hw10).trans hw11)
          have HK3 := hide (HPK.out w11 ax aa ca HSELF.out (HRA.out.ext hE11) HCA.out hE11)
          go_wp2_with fail
          refine (HK3.out.at _ (Ext.refl _)).mono ?_
          rintro e w12 ⟨rfl, hw12⟩
          go_wp2
          go_ret
          exact ⟨rfl, hwz.trans (((hw9.trans hw10).trans hw11).trans hw12)⟩
  · go_enter Try.func4, Try.ntmps4
    go_wp2
    go_ret
    exact ⟨rfl, (by repeat (first | exact Ext.refl _ | assumption | refine Ext.alloc ?_ _ | refine Ext.drew ?_ | refine Ext.trans ?_ (by assumption)))⟩

section
open Go.ChangeShapes Go.WideShapes Go.ChangeAt Go.RowKit Go.Joins Go.Deep
set_option maxRecDepth 100000 in
theorem fnPeaks_lifted (os : Os) (started : os.Started) (H : Type) (enc : TypeId × Value → H) :
    ReturnsInHanded {} Try.checked os 4 .any (Rows.fnPeaksSpec.pre6 enc Try.prog Try.f4 Rows.fnPeaksRow.domain false) (Rows.fnPeaksSpec.post enc Try.prog Try.f4 false true false false) := by
  refine returnsInHanded_of_change (C := Try.checked) own started (by kernel_rfl) Try.func4
    (ChangeSpec.witness6 (enc := enc) (C := Try.checked) false ⟨#[], #[.slice Option.none 0 0], []⟩ 8 (by kernel_rfl) (by kernel_rfl) (by kernel_rfl) (by kernel_rfl)) ?_
  intro W base args ds gs before hval0 hW hcnd _
  have hval : ∀ (j : Nat) t v, Try.f4.params[j]? = some t → args[j]? = some v → Value.okWide Try.prog W .any base t v := hval0
  have hW' := hW
  obtain ⟨p, q, hA0, hV, rfl, hfz, hnd⟩ := hW
  have hA : DataW.TrodAll enc Try.prog W 0 (fun _ => true) true Try.f4.params.toList args.toList ds p := hA0
  rw [Try.params4] at hA hval
  obtain ⟨v0, vs0, d0, ds0, p0, q0, hargs, rfl, rfl, h0, r0⟩ := trodAll_cons hA
  obtain ⟨rfl, rfl, rfl⟩ := trodAll_nil r0
  obtain rfl : args = #[v0] := by cases args; simp_all
  obtain ⟨rfl, rfl⟩ := trodVars_none hV
  have k0 := h0
  have lt0 : ∀ x ∈ p0, x.block < W.heap.size := by obtain ⟨m, hm⟩ := k0; exact DataW.trod_lt m _ _ _ hm
  obtain ⟨a0, bs0, c0, rfl, hR0, hl0⟩ := openY (hval 0 22 v0 rfl rfl) h0
  clear hA0 hval0
  refine (pea_law W a0 c0 bs0 hR0 hl0).mono fun e W' ⟨he, bel⟩ => ?_
  subst he
  exact ⟨_, rfl, _, _, _, [], _, [], hW', trodAll_mk1 (shut_bool Try.underlying4 _), (trodAll_cons_mk (Below.trod laidOut (by kernel_rfl) (of_decide_eq_true (by kernel_rfl)) k0 bel lt0) trodAll_mk0), rfl, bel.frame _, fun h => by cases h⟩

set_option maxRecDepth 100000 in
theorem fnPeaks_holds : Rows.FnPeaksSaid :=
  OpenClaim.holds_of_wide 4 Try.f4 rfl rfl rfl rfl rfl rfl rfl ⟨rfl, rfl, rfl, rfl, rfl⟩ rfl rfl rfl rfl rfl (by kernel_rfl) Try.func4 (by kernel_rfl)
    (of_decide_eq_true (by kernel_rfl)) (by unfold Func.isWrapper; first | (rw [if_pos (by decide +kernel)]; kernel_rfl) | (rw [if_neg (by decide +kernel)]; exact ⟨rfl, rfl⟩))
    (fun os started H enc _ => fnPeaks_lifted os started H enc)
#print axioms fnPeaks_holds
end

end Go.Proofs.Ytkbbcglghfddjaa
