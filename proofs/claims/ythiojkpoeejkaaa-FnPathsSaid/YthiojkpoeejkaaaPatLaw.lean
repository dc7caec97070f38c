/- FnPaths answers true at every input. -/
import Derived.Test.YthiojkpoeejkaaaCp12
import Derived.Test.YthiojkpoeejkaaaCp11
import Derived.Test.YthiojkpoeejkaaaCp24
import Derived.Test.YthiojkpoeejkaaaCp2
import Derived.Test.YthiojkpoeejkaaaCp23
import Derived.Test.YthiojkpoeejkaaaCp26
import Derived.Test.YthiojkpoeejkaaaCp25
import Derived.Test.YthiojkpoeejkaaaCp13
import Derived.Test.YthiojkpoeejkaaaCp27
import Derived.Test.YthiojkpoeejkaaaCp18
namespace Go.Proofs.Ythiojkpoeejkaaa
open Go.RowKit

set_option maxRecDepth 100000 in
theorem lstT_many {cost : List Int → Int} {xss : List (List Int)} : ∀ k, 1 ≤ k → 1 ≤ (lstT cost xss k).2.2
  | 0, h => by omega
  | k + 1, _ => by
    rw [lstT]
    split
    · exact Nat.le_refl _
    · rename_i h
      have ih := lstT_many (cost := cost) (xss := xss) k (by omega)
      split
      · show 1 ≤ (lstT cost xss k).2.2 + 1
        omega
      · exact ih

set_option maxRecDepth 100000 in
set_option maxHeartbeats 1000000 in
theorem ckem_impl (w : World) (n : Nat) (a : Option Addr) (c : Nat) (vs : List Vt) (hR : RdV w a vs) (h0 : profOk n vs = true) (n1 : 1 ≤ n) (n2 : n ≤ 5) :
    Calls Try.prog 84 #[.agg #[.int .i64 n, .slice a vs.length c]] w fun e w' => e = .returned (.int .i64 ((lstR (kemV vs) n).2.2 : Nat)) ∧ Ext w w' := by
  have q0 := new0 w (.int .i64 n) [.slice a vs.length c] 47
  have q1 := new1 w (.int .i64 n) (.slice a vs.length c) [] 47
  have H0 := hide h0
  have HPO : Hid (∀ w', Ext w w' → Calls Try.prog 35 #[.agg #[.int .i64 n, .slice a vs.length c]] w' fun e w'' => e = .returned (.bool true) ∧ Ext w' w'') := fun w' hw' => by
    have h := prof_impl w' n a c vs (hR.ext hw')
    rw [h0] at h
    exact h
  clear h0
  go_enter Try.func84, Try.ntmps84
  go_wp2_with (go_at_call 35; refine (HPO.out _ (by repeat (first | exact Ext.refl _ | assumption | refine Ext.alloc ?_ _ | refine Ext.drew ?_ | refine Ext.trans ?_ (by assumption)))).mono ?_; rintro e w1 ⟨rfl, hw1⟩; have q0 := Ext.keep (w' := w1) (by repeat (first | exact Ext.refl _ | assumption | refine Ext.alloc ?_ _ | refine Ext.drew ?_ | refine Ext.trans ?_ (by assumption))) q0; have q1 := Ext.keep (w' := w1) (by repeat (first | exact Ext.refl _ | assumption | refine Ext.alloc ?_ _ | refine Ext.drew ?_ | refine Ext.trans ?_ (by assumption))) q1)
  have hw : Ext w w1 := (by repeat (first | exact Ext.refl _ | assumption | refine Ext.alloc ?_ _ | refine Ext.drew ?_ | refine Ext.trans ?_ (by assumption)))
  have hl := least_impl 177 #[] #[.pointer (some ⟨w.heap.size, 0, none⟩)] (kemV vs) w1 n a c vs (hR.ext hw) H0.out n1 n2 Try.call177
    (fun r a' c' w' hr hc hRr hw' => by
      have r0 := hw'.keep q0
      have r1 := hw'.keep q1
      have HC := hide (fun w'' (hw'' : Ext w' w'') => kemS_impl w'' n a a' c c' vs r ((hR.ext hw).ext (hw'.trans hw'')) (hRr.ext hw'') H0.out hr hc)
      show Calls Try.prog 177 #[.slice a' r.length c', .pointer (some ⟨w.heap.size, 0, none⟩)] w' _
      go_enter Try.func177, Try.ntmps177
      go_wp2_with fail
      refine (HC.out _ (by repeat (first | exact Ext.refl _ | assumption | refine Ext.alloc ?_ _ | refine Ext.drew ?_ | refine Ext.trans ?_ (by assumption)))).mono ?_
      rintro e w1 ⟨rfl, hw1⟩
      go_wp2
      go_ret
      exact ⟨rfl, hw1⟩)
  have HC := hide hl
  clear hl
  refine HC.out.mono ?_
  rintro e w2 ⟨v, rfl, hv, hw2⟩
  go_wp2
  go_ret
  exact ⟨rfl, hw.trans hw2⟩

set_option maxRecDepth 100000 in
set_option maxHeartbeats 2000000 in
theorem mkrank_spec (w : World) (a : Option Addr) (c n m : Nat) (bs : List Int) (hR : RdY w a bs) (hl : bs.length ≤ 1048576) (hn : n ≤ 1000) (m1 : 1 ≤ m) (m5 : m ≤ 5) :
    Calls Try.prog 28 #[.slice a bs.length c, .int .i64 n, .int .i64 m] w fun e w' => ∃ a5 r c5, e = .returned (.slice a5 m c5) ∧ RdI w' a5 r ∧ rkOk m r = true ∧ r.length = m ∧ m ≤ c5 ∧ Ext w w' := by
  have i1 : (m : Int) ≤ 5 := by omega
  have i2 : (1 : Int) ≤ (m : Int) := by omega
  go_enter Try.func28, Try.ntmps28
  go_wp2_with fail
  refine (lnew_spec _ a c n bs hR hl hn).mono ?_
  rintro e w1 ⟨g, rfl, hg, hC, hw1⟩
  have HD : Hid (∀ z : Int, z = m → Calls Try.prog 108 #[.pointer (some ⟨g, 0, none⟩), .int .i64 z] w1 fun e w'' => ∃ v, e = .returned v ∧ ∃ r, OwnI w'' w1.heap.size v r ∧ rkOk m r = true ∧ Cur w'' g ∧ Only g w1 w'') := fun z hz => by
    subst hz
    exact draw_spec w1 g m hC m1 m5
  clear hC
  go_wp2_with fail
  all_goals
    refine (HD.out _ (by omega)).mono ?_
    rintro e w2 ⟨v, rfl, r, hv, hr, hC2, hO2⟩
    obtain ⟨a5, c5, rfl, hc5, _, hR5, _⟩ := hv.val
    have hrl : r.length = m := by have := (rk_len hr).1; omega
    rw [hrl] at hc5 ⊢
    have HRL := hide hrl
    have HR := hide hr
    have hE := Only.ext hw1 hO2 hg
    clear hv hC2 hO2 hrl hr
    go_wp2
    go_ret
    exact ⟨a5, r, c5, rfl, hR5, HR.out, HRL.out, hc5, hE⟩

set_option maxRecDepth 100000 in
set_option maxHeartbeats 8000000 in
theorem pat_law (w : World) (a : Option Addr) (c : Nat) (bs : List Int) (hR : RdY w a bs) (_ : bs.length ≤ maxLen) :
    Calls Try.prog 9 #[.slice a bs.length c] w fun e w' => e = .returned (.bool true) ∧ Ext w w' := by
  by_cases hb : bs.length ≤ 1048576
  · go_enter Try.func9, Try.ntmps9
    go_wp2_with fail
    refine (numY_spec _ a c 0 bs (hR.ext (by repeat (first | exact Ext.refl _ | assumption | refine Ext.alloc ?_ _ | refine Ext.drew ?_ | refine Ext.trans ?_ (by assumption)))) hb (by omega)).mono ?_
    rintro e w1 ⟨x, rfl, hx, hw1⟩
    go_wp2_with fail
    obtain ⟨n, hn, n1, n5⟩ : ∃ n : Nat, 1 + (x : Int) % 4 = n ∧ 1 ≤ n ∧ n ≤ 4 := ⟨(1 + (x : Int) % 4).toNat, by omega, by omega, by omega⟩
    rw [hn]
    clear hn hx
    refine (mkprofC_spec _ a c 2 n bs (hR.ext (by repeat (first | exact Ext.refl _ | assumption | refine Ext.alloc ?_ _ | refine Ext.drew ?_ | refine Ext.trans ?_ (by assumption)))) hb (by omega) n1 (by omega)).mono ?_
    rintro e w2 ⟨v, rfl, a', vs, c', rfl, hRV, ⟨h0, v1, v5, v6⟩, hw2, hcap⟩
    have q0 := new0 w2 (.int .i64 n) [.slice a' vs.length c'] 47
    have q1 := new1 w2 (.int .i64 n) (.slice a' vs.length c') [] 47
    have hE := Ext.new w2 (.cells #[.int .i64 n, .slice a' vs.length c'] 47)
    go_wp2_with fail
    have hw := (Ext.trans hw1 hw2).trans hE
    have hRV := hRV.ext hE
    have HV := hide (⟨v1, v5, v6⟩ : 1 ≤ vs.length ∧ vs.length ≤ 5 ∧ ∀ x ∈ vs, x.2 ≤ 6)
    have HCAP := hide hcap
    have HNUM : Hid (∀ W' (k : Nat), k ≤ 1000 → Ext w W' → Calls Try.prog 11 #[.slice a bs.length c, .int .i64 k] W' fun e w' => ∃ x : Nat, e = .returned (.int .i64 x) ∧ x ≤ 65536 ∧ Ext W' w') := hide (fun W' k hk hW' => (numY_spec W' a c k bs (hR.ext hW') hb hk).mono fun e w' ⟨x, h1, h2, h3⟩ => ⟨x, h1, by omega, h3⟩)
    have HMR : Hid (∀ W', Ext w W' → Calls Try.prog 28 #[.slice a bs.length c, .int .i64 (60 : Nat), .int .i64 n] W' fun e w' => ∃ a5 r c5, e = .returned (.slice a5 n c5) ∧ RdI w' a5 r ∧ rkOk n r = true ∧ r.length = n ∧ n ≤ c5 ∧ Ext W' w') := hide (fun W' hW' => mkrank_spec W' a c 60 n bs (hR.ext hW') hb (by omega) n1 (by omega))
    clear hR hb hw1 hw2 hE v1 v5 v6 hcap
    generalize w2.alloc (.cells #[.int .i64 n, .slice a' vs.length c'] 47) = W0 at hw hRV q0 q1 ⊢
    have H0 := hide h0
    have HS := hide (prof_small h0)
    refine (top_impl _ n a' c' vs hRV).mono ?_
    rintro e w3 ⟨v, rfl, hv, hw3⟩
    have q0 := hw3.keep q0
    have q1 := hw3.keep q1
    obtain ⟨at', ct, rfl, _, _, hRt, _⟩ := hv.val
    clear hv
    go_wp2_with fail
    refine (sch_impl _ n a' c' vs (hRV.ext hw3)).mono ?_
    rintro e w4 ⟨v, rfl, hv, hw4⟩
    have q0 := hw4.keep q0
    have q1 := hw4.keep q1
    obtain ⟨asx, cs, rfl, _, _, hRs, _⟩ := hv.val
    clear hv
    have hRt := hRt.ext hw4
    have hE4 := hw3.trans hw4
    clear hw3 hw4
    go_wp2_with fail
    refine (prk_impl _ n a' c' vs (hRV.ext hE4)).mono ?_
    rintro e w5 ⟨v, rfl, hv, hw5⟩
    have q0 := hw5.keep q0
    have q1 := hw5.keep q1
    obtain ⟨ar, cr, rfl, hcr, _, hRr, _⟩ := hv.val
    have hrr : rkOk n (prkO n vs) = true := by rw [prk_eq h0]; exact prL_rk n1 (by omega) (lok_ranked h0)
    have hlr : (prkO n vs).length = n := by have := (rk_len hrr).1; omega
    rw [hlr] at hcr ⊢
    clear hv
    have hRt := hRt.ext hw5
    have hRs := hRs.ext hw5
    have hE5 := hE4.trans hw5
    clear hE4 hw5
    go_wp2_with fail
    refine (kem_impl _ n a' c' vs (hRV.ext hE5) h0).mono ?_
    rintro e w6 ⟨v, rfl, hv, hw6⟩
    have q0 := hw6.keep q0
    have q1 := hw6.keep q1
    obtain ⟨ak, ck, rfl, hck, _, hRk, _⟩ := hv.val
    obtain ⟨hrk, hkm⟩ := kem_min h0
    have hlk : (kemO n vs).length = n := by have := (rk_len hrk).1; omega
    rw [hlk] at hck ⊢
    clear hv
    have hRt := hRt.ext hw6
    have hRs := hRs.ext hw6
    have hRr := hRr.ext hw6
    have hE6 := hE5.trans hw6
    clear hE5 hw6
    have hw := hw.trans hE6
    have hRV := hRV.ext hE6
    obtain ⟨wb, hwb⟩ : ∃ wb : World, wb = w6 := ⟨_, rfl⟩
    subst hwb
    clear hE6
    obtain ⟨xr, hxr, hmr⟩ := prk_first h0
    obtain ⟨xk, hxk, hmk⟩ := kem_first h0
    obtain ⟨br, orr, rfl, dr⟩ := hRr.at_ hxr
    obtain ⟨bk, ok, rfl, dk⟩ := hRk.at_ hxk
    rw [Nat.add_zero] at dr dk
    have HKR : Hid (ValC 41 #[.int .i64 n, .slice (some ⟨br, orr, none⟩) n cr] wb (.bool true)) := hide (fun W hW => by
      have h := rank_spec_n W n _ cr (prkO n vs) (hRr.ext hW) hlr (inR_iff.2 (by omega))
      rw [hrr] at h
      exact h)
    have HKK : Hid (ValC 41 #[.int .i64 n, .slice (some ⟨bk, ok, none⟩) n ck] wb (.bool true)) := hide (fun W hW => by
      have h := rank_spec_n W n _ ck (kemO n vs) (hRk.ext hW) hlk (inR_iff.2 (by omega))
      rw [hrk] at h
      exact h)
    have HHT : Hid (∀ x : Int, x ∈ topO n vs → ValC 17 #[.slice at' (topO n vs).length ct, .int .i64 x] wb (.bool true)) := hide (fun x hx W hW => by
      have h := has_law W at' _ ct (topO n vs) x rfl (hRt.ext hW) (by have := topO_len n vs; omega)
      rw [hasI_iff.2 hx] at h
      exact h)
    have HST : Hid (∀ x ∈ schO n vs, x ∈ topO n vs) := hide (fun x hx => sch_top h0 hx)
    have HLK : Hid (∀ x ∈ lokO n vs, ∃ i j : Nat, i < n ∧ j < n ∧ x = [(i : Int), (j : Int)] ∧ prefB (prkO n vs) i j = true ∧ 0 < marginV vs i j) := hide (fun x hx => by
      obtain ⟨i, j, hi, hj, rfl, hb⟩ := lok_mem h0 hx
      refine ⟨i, j, hi, hj, rfl, ?_, ?_⟩
      · rw [prk_eq h0]; exact prk_keeps n1 (by omega) (lok_ranked h0) hi hj hx
      · unfold beatsV at hb
        rw [decide_eq_true_eq] at hb
        unfold marginV
        omega)
    have HLP : Hid (∀ W, Ext wb W → Calls Try.prog 80 #[.agg #[.int .i64 n, .slice a' vs.length c']] W fun e w' => ∃ al cl, e = .returned (.slice al (lokO n vs).length cl) ∧ RdSS w' w'.heap.size (.slice al (lokO n vs).length cl) (lokO n vs) ∧ Ext W w') := hide (fun W hW => (lok_impl W n a' c' vs (hRV.ext hW)).mono fun e w' ⟨v, h1, h2, h3⟩ => by
      have h4 := h2.wr.rd
      obtain ⟨al, cl, hv, _⟩ := h2.wr
      rw [hv] at h4
      exact ⟨al, cl, by rw [h1, hv], h4, h3⟩)
    have HPF : Hid (∀ i j : Nat, prefB (prkO n vs) i j = true → ValC 81 #[.slice (some ⟨br, orr, none⟩) n cr, .int .i64 i, .int .i64 j] wb (.bool true)) := hide (fun i j hij W hW => by
      have h := pref_impl W _ cr (prkO n vs) i j (hRr.ext hW) (by omega)
      rw [hij, hlr] at h
      exact h)
    have HMG : Hid (∀ i j : Nat, i < n → j < n → ValC 32 #[.agg #[.int .i64 n, .slice a' vs.length c'], .int .i64 i, .int .i64 j] wb (.int .i64 (marginV vs i j))) := hide (fun i j hi hj W hW => by
      have h := margin_impl' W n a' c' vs i j (hRV.ext hW)
      rw [margO_eq h0 hi hj] at h
      exact h)
    have HMJ : Hid (∀ W, Ext wb W → Calls Try.prog 56 #[.agg #[.int .i64 n, .slice a' vs.length c']] W fun e w' => ∃ am cm, e = .returned (.tuple #[.slice am (mjL n vs).length cm, .bool (mjB n vs)]) ∧ RdI w' am (mjL n vs) ∧ Ext W w') := hide (fun W hW => (mj_impl W n a' c' vs (hRV.ext hW)).mono fun e w' ⟨v, h1, h2, h3⟩ => by
      obtain ⟨ar, cr, hv, hc, _, hRr, _⟩ := h2.val
      exact ⟨ar, cr, by rw [h1, hv], hRr, h3⟩)
    have HSL : Hid (∀ W, Ext wb W → Calls Try.prog 82 #[.agg #[.int .i64 n, .slice a' vs.length c']] W fun e w' => ∃ am cm, e = .returned (.tuple #[.slice am n cm, .int .i64 (slaW n vs)]) ∧ RdI w' am (slaO n vs) ∧ Ext W w') := hide (fun W hW => (sla_impl W n a' c' vs (hRV.ext hW)).mono fun e w' ⟨v, h1, h2, h3⟩ => by
      obtain ⟨ar, cr, hv, hc, _, hRr, _⟩ := h2.val
      have hl : (slaO n vs).length = n := by have := (rk_len (sla_min h0).1).1; omega
      rw [hl] at hv
      exact ⟨ar, cr, by rw [h1, hv], hRr, h3⟩)
    have HKS : Hid (∀ (W0 : World) (ax : Option Addr) (cx : Nat) (r : List Int), Ext wb W0 → RdI W0 ax r → rkOk n r = true → n ≤ cx → ValC 83 #[.agg #[.int .i64 n, .slice a' vs.length c'], .slice ax n cx] W0 (.int .i64 (kemV vs r))) := hide (fun W0 ax cx r hW0 hRx hr hc W hW => by
      have hl : r.length = n := by have := (rk_len hr).1; omega
      have h := kemS_impl W n a' ax c' cx vs r (hRV.ext (hW0.trans hW)) (hRx.ext hW) h0 hr (by omega)
      rw [hl] at h
      exact h)
    have HCK : Hid (ValC 84 #[.agg #[.int .i64 n, .slice a' vs.length c']] wb (.int .i64 ((lstR (kemV vs) n).2.2 : Nat))) := hide (fun W hW => ckem_impl W n a' c' vs (hRV.ext hW) h0 n1 (by omega))
    have hck1 : 1 ≤ (lstR (kemV vs) n).2.2 := lstT_many _ (allO_pos n1 (by omega))
    have HPT : Hid (∀ W, Ext wb W → Calls Try.prog 85 #[.agg #[.int .i64 n, .slice a' vs.length c']] W fun e w' => ∃ al cl, e = .returned (.slice al n cl) ∧ Ext W w') := hide (fun W hW => (pth_impl W n a' c' vs (hRV.ext hW)).mono fun e w' ⟨v, h1, h2, h3⟩ => by
      obtain ⟨al, cl, hv, _⟩ := h2
      have hl : (pthO n vs).length = n := by unfold pthO; rw [if_pos h0, Int.toNat_natCast]; exact tabL_len _ _
      rw [hl] at hv
      exact ⟨al, cl, by rw [h1, hv], h3⟩)
    have HCO : Hid (ValC 25 #[.agg #[.int .i64 n, .slice a' vs.length c']] wb (.int .i64 (allV vs))) := hide (fun W hW => by
      have h := count_impl W n a' c' vs (hRV.ext hW)
      rw [if_pos h0] at h
      exact h)
    have HM1 : Hid (mjB n vs = true → mjL n vs = kemO n vs ∧ mjL n vs = prkO n vs ∧ mjL n vs = slaO n vs ∧ slaW n vs = 0) := hide (fun h => ⟨mj_kem h0 h, mj_prk h0 h, (mj_sla h0 h).1, (mj_sla h0 h).2⟩)
    have hsp := sla_pos h0
    have hsn : 1 ≤ (schO n vs).length := List.length_pos_iff.2 (sch_ne h0)
    have hl5 := schO_len n vs
    have HKM : Hid (∀ r, rkOk n r = true → kemV vs (kemO n vs) ≤ kemV vs r ∧ 2 * (kemV vs r + kemV vs r.reverse) = (n : Int) * ((n : Int) - 1) * allV vs ∧ rkOk n r.reverse = true ∧ (0 ≤ kemV vs r ∧ kemV vs r ≤ 1000000) ∧ (0 ≤ kemV vs r.reverse ∧ kemV vs r.reverse ≤ 1000000)) := hide (fun r hr => by
      have hb1 := kemV_bd (r := r) (prof_small h0) vs.length (Nat.le_refl _)
      have hb2 := kemV_bd (r := r.reverse) (prof_small h0) vs.length (Nat.le_refl _)
      rw [List.take_length] at hb1 hb2
      have := (prof_small h0).1
      exact ⟨hkm r hr, kem_rev hr (prof_small h0), rk_perm_ok (List.reverse_perm r) hr, by omega, by omega⟩)
    have HRR := hide hRr
    have HRK := hide hRk
    have HRS := hide hRs
    have HLR := hide hlr
    have HLKL := hide hlk
    have HLOK : Hid ((lokO n vs).length ≤ 1000) := hide (by have h := (lokO_bd n vs).1; omega)
    have hn5 : n ≤ 5 := by omega
    have HKRK := hide hrk
    have HMRX := hide (HHT.out xr hmr)
    have HMKX := hide (HHT.out xk hmk)
    clear hRt hRs hRr hRk hRV HV HCAP HNUM H0 HS h0 hrr hlr hcr hrk hlk hkm hmr hmk hxr hxk
    have Q0 := q0
    have Q1 := q1
    have hEr : Ext wb wb := Ext.refl _
    have t1 : (((schO n vs).length : Int) == 0) = false := by rw [beq_eq_false_iff_ne]; omega
    generalize schO n vs = Sl at *
    generalize topO n vs = Tl at *
    generalize lokO n vs = Ll at *
    clear hsn
    go_wp2_with fail
    refine (HKR.out.at _ hEr).mono ?_
    rintro e w7 ⟨rfl, hw7⟩
    have q0 := hw7.keep q0
    have q1 := hw7.keep q1
    have hEr := hEr.trans hw7
    clear hw7
    go_wp2_with fail
    refine (HKK.out.at _ hEr).mono ?_
    rintro e w8 ⟨rfl, hw8⟩
    have q0 := hw8.keep q0
    have q1 := hw8.keep q1
    have hEr := hEr.trans hw8
    clear hw8
    have dk9 := dk
    have dr := hEr.keep dr
    have dk := hEr.keep dk
    go_wp2_with fail
    refine (HMRX.out.at _ hEr).mono ?_
    rintro e w9 ⟨rfl, hw9⟩
    have q0 := hw9.keep q0
    have q1 := hw9.keep q1
    have hEr := hEr.trans hw9
    clear hw9
    have dk := hEr.keep dk9
    go_wp2_with fail
    refine (HMKX.out.at _ hEr).mono ?_
    rintro e w10 ⟨rfl, hw10⟩
    have q0 := hw10.keep q0
    have q1 := hw10.keep q1
    have hEr := hEr.trans hw10
    clear hw10
    go_wp2_with fail
    clear HKR HKK HMRX HMKX dr dk dk9
    go_loopw [10, 70] (fun _ i wr => ∃ k : Nat, k ≤ Sl.length ∧ i = .int .i64 k ∧ Ext wb wr) (fun _ i _ => Sl.length - (intOf i).toNat)
    case atStart => exact ⟨0, Nat.zero_le _, rfl, hEr⟩
    case round =>
      clear hEr
      obtain ⟨k, hk, rfl, hwr⟩ := hrel
      have q0 := hwr.keep Q0
      have q1 := hwr.keep Q1
      by_cases hlt : k < Sl.length
      · obtain ⟨x, hx⟩ := at_of_lt hlt
        have HH := hide (HHT.out x (HST.out x (List.mem_of_getElem? hx)) _ hwr)
        obtain ⟨b4, o4, rfl, d4⟩ := (HRS.out.ext hwr).at_ hx
        have hk1 : k + 1 ≤ Sl.length := by omega
        clear hx
        go_wp2_with fail
        refine HH.out.mono ?_
        rintro e w9 ⟨rfl, hw9⟩
        go_wp2
        exact ⟨⟨k + 1, hk1, by go_num, hwr.trans hw9⟩, by simp [intOf]; omega⟩
      · as_aux_lemma =>
          go_wp2_with fail
          refine (HLP.out _ hwr).mono ?_
          rintro e w9 ⟨al, cl, rfl, hRL, hw9⟩
          have P0 := hw9.keep q0
          have P1 := hw9.keep q1
          have HEo := hide (hwr.trans hw9)
          obtain ⟨wo, hwo⟩ : ∃ wo : World, wo = w9 := ⟨_, rfl⟩
          subst hwo
          have hL := HLOK.out
          have HRL := hide hRL
          clear hwr hw9 hlt hk q0 q1 hRL
          have q0 := P0
          have q1 := P1
          go_wp2_with fail
          go_loopw [12, 82] (fun _ i wr => ∃ k : Nat, k ≤ Ll.length ∧ i = .int .i64 k ∧ Ext wo wr) (fun _ i _ => Ll.length - (intOf i).toNat)
          case atStart => exact ⟨0, Nat.zero_le _, rfl, Ext.refl _⟩
          case round =>
            obtain ⟨k, hk, rfl, hwr⟩ := hrel
            have q0 := hwr.keep P0
            have q1 := hwr.keep P1
            have hEr := HEo.out.trans hwr
            by_cases hlt : k < Ll.length
            · obtain ⟨x, hx⟩ := at_of_lt hlt
              obtain ⟨i, j, hi, hj, rfl, hpf, hmg⟩ := HLK.out x (List.mem_of_getElem? hx)
              obtain ⟨b4, o4, a5, c5, rfl, d4, hR5⟩ := (HRL.out.ext hwr).at_ hx
              obtain ⟨b5, o5, rfl, d5⟩ := hR5.at_ (k := 0) (x := (i : Int)) rfl
              obtain ⟨b6, o6, e6, d6⟩ := hR5.at_ (k := 1) (x := (j : Int)) rfl
              injection e6 with e6
              injection e6 with e6 e7
              subst e6
              subst e7
              rw [Nat.add_zero] at d5
              rw [show [(i : Int), (j : Int)].length = 2 from rfl] at d4
              have HP1 := hide (HPF.out i j hpf)
              have HG1 := hide (HMG.out i j hi hj)
              generalize marginV vs (i : Int) (j : Int) = G at HG1 hmg
              have g1 : ¬ G ≤ 0 := by omega
              have hk1 : k + 1 ≤ Ll.length := by omega
              clear hx hpf hmg hR5
              go_wp2_with fail
              refine wp_region_X (by kernel_rfl) (by kernel_rfl) ?_
              repeat' (refine wpX_stepQ (fun K hK => ?_)
                       go_simp
                       try (rw [if_neg (by intro h; simp [undef] at h)])
                       try split
                       all_goals
                         first
                         | (refine hK _ ?_
                            clear hK K)
                         | (apply Exists.intro
                            refine ⟨fun wq hwq => ?_, hK _ ?_⟩
                            · have hcq := hwq.cellS
                              go_simp
                              first
                              | exact ⟨Ext.refl _, rfl⟩
                              | exact ⟨Ext.refl _, HP1.out.at _ (hEr.trans (by repeat (first | exact Ext.refl _ | assumption | refine Ext.alloc ?_ _ | refine Ext.drew ?_ | refine Ext.trans ?_ (by assumption))))⟩
                            clear hK K))
              repeat' (refine wpX_stepQ (fun K hK => ?_)
                       go_simp
                       try (rw [if_neg (by intro h; simp [undef] at h)])
                       try split
                       all_goals
                         first
                         | (refine hK _ ?_
                            clear hK K)
                         | (apply Exists.intro
                            refine ⟨fun wq hwq => ?_, hK _ ?_⟩
                            · have hcq := hwq.cellS
                              go_simp
                              first
                              | exact ⟨Ext.refl _, rfl⟩
                              | exact ⟨Ext.refl _, HG1.out.at _ (hEr.trans (by repeat (first | exact Ext.refl _ | assumption | refine Ext.alloc ?_ _ | refine Ext.drew ?_ | refine Ext.trans ?_ (by assumption))))⟩
                            clear hK K))
              refine wpX_nil (fun wz hwz => ?_)
              go_wp2
              exact ⟨⟨k + 1, hk1, by go_num, hwr.trans hwz⟩, by simp [intOf]; omega⟩
            · clear hwr
              as_aux_lemma =>
                go_wp2_with fail
                have hwE := hw.trans hEr
                refine (HMR.out _ hwE).mono ?_
                rintro e w10 ⟨ax, X, cx, rfl, hRx, hrx, hlx, hcx, hw10⟩
                have q0 := hw10.keep q0
                have q1 := hw10.keep q1
                have hEr := hEr.trans hw10
                obtain ⟨hab, hbc, hrv, hb1, hb2⟩ := HKM.out X hrx
                obtain ⟨N, hN, N0, N6⟩ : ∃ N : Int, (n : Int) * ((n : Int) - 1) = 2 * N ∧ 0 ≤ N ∧ N ≤ 6 := by
                  have : n = 1 ∨ n = 2 ∨ n = 3 ∨ n = 4 := by omega
                  rcases this with rfl | rfl | rfl | rfl
                  · exact ⟨0, by decide, by decide, by decide⟩
                  · exact ⟨1, by decide, by decide, by decide⟩
                  · exact ⟨3, by decide, by decide, by decide⟩
                  · exact ⟨6, by decide, by decide, by decide⟩
                have hbc : N * allV vs = kemV vs X + kemV vs X.reverse := by
                  rw [hN, Int.mul_assoc] at hbc
                  omega
                have htd : (2 * N).tdiv 2 = N := Int.mul_tdiv_cancel_left _ (by decide)
                have HRX := hide hRx
                have HRXK := hide hrx
                have HLX := hide hlx
                clear hwE hw10 hrx hlx hRx
                go_wp2_with fail
                clear hN htd
                refine (HMJ.out _ hEr).mono ?_
                rintro e w11 ⟨am, cm, rfl, hRm, hw11⟩
                have q0 := hw11.keep q0
                have q1 := hw11.keep q1
                have hEr := hEr.trans hw11
                have HRX := hide (HRX.out.ext hw11)
                have HRM := hide hRm
                clear hw11 hRm
                go_wp2_with fail
                refine (HSL.out _ hEr).mono ?_
                rintro e w12 ⟨al2, cl2, rfl, hRl, hw12⟩
                have q0 := hw12.keep q0
                have q1 := hw12.keep q1
                have hEr := hEr.trans hw12
                have HRX := hide (HRX.out.ext hw12)
                have HRM := hide (HRM.out.ext hw12)
                have HRL2 := hide hRl
                clear hw12 hRl
                obtain ⟨wc, hwc⟩ : ∃ wc : World, wc = w12 := ⟨_, rfl⟩
                subst hwc
                have HA : Hid (ValC 83 #[.agg #[.int .i64 n, .slice a' vs.length c'], .slice (some ⟨bk, ok, none⟩) n ck] wc (.int .i64 (kemV vs (kemO n vs)))) := hide (HKS.out wc _ ck _ hEr (HRK.out.ext hEr) HKRK.out hck)
                have HB : Hid (ValC 83 #[.agg #[.int .i64 n, .slice a' vs.length c'], .slice ax n cx] wc (.int .i64 (kemV vs X))) := hide (HKS.out wc ax cx X hEr HRX.out HRXK.out hcx)
                have HRV : Hid (∀ W, Ext wc W → Calls Try.prog 67 #[.slice ax n cx] W fun e w' => ∃ af cf, e = .returned (.slice af n cf) ∧ RdI w' af X.reverse ∧ n ≤ cf ∧ Ext W w') := hide (fun W hW => (rev_impl W ax cx n X HLX.out n1 hn5 (HRX.out.ext hW)).mono fun e w' ⟨v, h1, h2, h3⟩ => by
                  obtain ⟨af, cf, hv, hc, _, hRf, _⟩ := h2.val
                  have hl : X.reverse.length = n := by rw [List.length_reverse]; exact HLX.out
                  rw [hl] at hv hc
                  exact ⟨af, cf, by rw [h1, hv], hRf, hc, h3⟩)
                have HRVK := hide hrv
                have HS1 : Hid (mjB n vs = true → ValC 47 #[.slice am (mjL n vs).length cm, .slice (some ⟨bk, ok, none⟩) n ck] wc (.bool true)) := hide (fun h W hW => by
                  have e := (HM1.out h).1
                  exact same_law W am _ _ n cm ck (kemO n vs) (by rw [e]) HLKL.out.symm (by rw [← e]; exact HRM.out.ext hW) (HRK.out.ext (hEr.trans hW)) (by rw [HLKL.out]; omega))
                have HS2 : Hid (mjB n vs = true → ValC 47 #[.slice am (mjL n vs).length cm, .slice (some ⟨br, orr, none⟩) n cr] wc (.bool true)) := hide (fun h W hW => by
                  have e := (HM1.out h).2.1
                  exact same_law W am _ _ n cm cr (prkO n vs) (by rw [e]) HLR.out.symm (by rw [← e]; exact HRM.out.ext hW) (HRR.out.ext (hEr.trans hW)) (by rw [HLR.out]; omega))
                have HS3 : Hid (mjB n vs = true → ValC 47 #[.slice am (mjL n vs).length cm, .slice al2 n cl2] wc (.bool true)) := hide (fun h W hW => by
                  have e := (HM1.out h).2.2.1
                  have e2 := (HM1.out h).2.1
                  exact same_law W am _ _ n cm cl2 (slaO n vs) (by rw [e]) (by rw [← e, e2, HLR.out]) (by rw [← e]; exact HRM.out.ext hW) (HRL2.out.ext hW) (by rw [← e, e2, HLR.out]; omega))
                have HS4 : Hid (mjB n vs = true → slaW n vs = 0) := hide (fun h => (HM1.out h).2.2.2)
                have HKC : Hid (∀ (W0 : World) (af : Option Addr) (cf : Nat), Ext wc W0 → RdI W0 af X.reverse → n ≤ cf → ValC 83 #[.agg #[.int .i64 n, .slice a' vs.length c'], .slice af n cf] W0 (.int .i64 (kemV vs X.reverse))) := hide (fun W0 af cf hW0 hRf hcf => HKS.out W0 af cf X.reverse (hEr.trans hW0) hRf HRVK.out hcf)
                generalize kemV vs (kemO n vs) = A at HA hab
                generalize kemV vs X = B at HB hab hbc hb1
                generalize kemV vs X.reverse = C at HKC hbc hb2
                have HCO2 : Hid (ValC 25 #[.agg #[.int .i64 n, .slice a' vs.length c']] wc (.int .i64 (allV vs))) := hide (fun W hW => HCO.out W (hEr.trans hW))
                have HCK2 : Hid (ValC 84 #[.agg #[.int .i64 n, .slice a' vs.length c']] wc (.int .i64 ((lstR (kemV vs) n).2.2 : Nat))) := hide (fun W hW => HCK.out W (hEr.trans hW))
                have HPT2 : Hid (∀ W, Ext wc W → Calls Try.prog 85 #[.agg #[.int .i64 n, .slice a' vs.length c']] W fun e w' => ∃ al cl, e = .returned (.slice al n cl) ∧ Ext W w') := hide (fun W hW => HPT.out W (hEr.trans hW))
                generalize (lstR (kemV vs) n).2.2 = M at HCK2 hck1
                generalize allV vs = V at HCO2 hbc
                have hm1 : (1 : Int) ≤ (M : Int) := by omega
                generalize (M : Int) = M' at HCK2 hm1
                have hy : IntKind.i64.wrap (B + C) = B + C ∧ IntKind.i64.wrap (N * V) = B + C := ⟨IntWalk.i64_in _ (by omega), by rw [hbc]; exact IntWalk.i64_in _ (by omega)⟩
                have hw := hw.trans hEr
                generalize slaW n vs = Z at HS4 hsp ⊢
                generalize (mjL n vs).length = mL at HS1 HS2 HS3 ⊢
                clear hbc hb1 hb2 hck1 hrv HMJ HSL HKS HCK HPT HCO HM1 HKM HRR HRK HRS HLR HLKL HLOK HKRK HRX HRXK HLX HRM HRL2 HRVK HLK HLP HPF HMG HHT HST HMR hEr N0 N6
                go_wp2_with fail
                obtain ⟨y1, y2⟩ := hy
                refine wp_region_O (0 :: 1 :: 2 :: 3 :: 4 :: 5 :: 6 :: 7 :: 8 :: 9 :: 10 :: 11 :: 12 :: 16 :: 17 :: 13 :: 14 :: 15 :: 18 :: 19 :: 20 :: 21 :: 22 :: 23 :: 24 :: 25 :: 26 :: 27 :: 28 :: 29 :: 30 :: 31 :: 32 :: 33 :: 34 :: 35 :: 36 :: 37 :: 38 :: 39 :: 40 :: 41 :: 42 :: 43 :: 44 :: 45 :: 46 :: 47 :: 48 :: 49 :: 50 :: 51 :: 52 :: 53 :: 54 :: 55 :: 58 :: 56 :: 57 :: 59 :: 60 :: 61 :: []) (by kernel_rfl) rfl (by kernel_rfl) ?_
                repeat' (refine wpO_stepQ rfl (fun K hK => ?_)
                         go_simp
                         try (rw [if_neg (by intro h; simp [undef] at h)])
                         try split
                         all_goals
                           first
                           | (refine hK _ ?_
                              clear hK K)
                           | (apply Exists.intro
                              refine ⟨fun wq hwq => ?_, hK _ ?_⟩
                              · have hcq := hwq.cellS
                                go_simp
                                first
                                | exact ⟨Ext.refl _, rfl⟩
                              clear hK K))
                refine wpO_stepQ rfl (fun K hK => ?_)
                go_simp
                apply Exists.intro
                refine ⟨fun wq hwq => ?_, hK _ ?_⟩
                · have hcq := hwq.cellS
                  go_simp
                  exact ⟨Ext.refl _, HA.out.at _ hwq⟩
                clear hK K
                repeat' (refine wpO_stepQ rfl (fun K hK => ?_)
                         go_simp
                         try (rw [if_neg (by intro h; simp [undef] at h)])
                         try split
                         all_goals
                           first
                           | (refine hK _ ?_
                              clear hK K)
                           | (apply Exists.intro
                              refine ⟨fun wq hwq => ?_, hK _ ?_⟩
                              · have hcq := hwq.cellS
                                go_simp
                                first
                                | exact ⟨Ext.refl _, rfl⟩
                              clear hK K))
                refine wpO_stepQ rfl (fun K hK => ?_)
                go_simp
                apply Exists.intro
                refine ⟨fun wq hwq => ?_, hK _ ?_⟩
                · have hcq := hwq.cellS
                  go_simp
                  exact ⟨Ext.refl _, HB.out.at _ hwq⟩
                clear hK K
                repeat' (refine wpO_stepQ rfl (fun K hK => ?_)
                         go_simp
                         try (rw [if_neg (by intro h; simp [undef] at h)])
                         try split
                         all_goals
                           first
                           | (refine hK _ ?_
                              clear hK K)
                           | (apply Exists.intro
                              refine ⟨fun wq hwq => ?_, hK _ ?_⟩
                              · have hcq := hwq.cellS
                                go_simp
                                first
                                | exact ⟨Ext.refl _, rfl⟩
                              clear hK K))
                refine wpO_stepQ rfl (fun K hK => ?_)
                go_simp
                apply Exists.intro
                refine ⟨fun wq hwq => ?_, hK _ ?_⟩
                · have hcq := hwq.cellS
                  go_simp
                  exact ⟨Ext.refl _, HB.out.at _ hwq⟩
                clear hK K
                repeat' (refine wpO_stepQ rfl (fun K hK => ?_)
                         go_simp
                         try (rw [if_neg (by intro h; simp [undef] at h)])
                         try split
                         all_goals
                           first
                           | (refine hK _ ?_
                              clear hK K)
                           | (apply Exists.intro
                              refine ⟨fun wq hwq => ?_, hK _ ?_⟩
                              · have hcq := hwq.cellS
                                go_simp
                                first
                                | exact ⟨Ext.refl _, rfl⟩
                              clear hK K))
                refine wpO_stepS rfl (by kernel_rfl) (fun K hK wq hwq => ?_)
                go_simp
                refine (HRV.out _ hwq).mono ?_
                rintro e w13 ⟨af, cf, rfl, hRf, hcf, hw13⟩
                refine ⟨hw13, hK _ _ ?_⟩
                clear hK K
                have hE13 := hwq.trans hw13
                have HC := hide (HKC.out w13 af cf hE13 hRf hcf)
                have q0 := hE13.keep q0
                have q1 := hE13.keep q1
                clear hwq hw13 hRf HKC
                refine wpO_stepQ rfl (fun K hK => ?_)
                go_simp
                apply Exists.intro
                refine ⟨fun wq hwq => ?_, hK _ ?_⟩
                · have hcq := hwq.cellS
                  go_simp
                  exact ⟨Ext.refl _, HC.out.at _ hwq⟩
                clear hK K
                repeat' (refine wpO_stepQ rfl (fun K hK => ?_)
                         go_simp
                         try (rw [if_neg (by intro h; simp [undef] at h)])
                         try split
                         all_goals
                           first
                           | (refine hK _ ?_
                              clear hK K)
                           | (apply Exists.intro
                              refine ⟨fun wq hwq => ?_, hK _ ?_⟩
                              · have hcq := hwq.cellS
                                go_simp
                                first
                                | exact ⟨Ext.refl _, rfl⟩
                              clear hK K))
                refine wpO_stepQ rfl (fun K hK => ?_)
                go_simp
                apply Exists.intro
                refine ⟨fun wq hwq => ?_, hK _ ?_⟩
                · have hcq := hwq.cellS
                  go_simp
                  exact ⟨Ext.refl _, HCO2.out.at _ (hE13.trans hwq)⟩
                clear hK K
                repeat' (refine wpO_stepQ rfl (fun K hK => ?_)
                         go_simp
                         try (rw [if_neg (by intro h; simp [undef] at h)])
                         try split
                         all_goals
                           first
                           | (refine hK _ ?_
                              clear hK K)
                           | (apply Exists.intro
                              refine ⟨fun wq hwq => ?_, hK _ ?_⟩
                              · have hcq := hwq.cellS
                                go_simp
                                first
                                | exact ⟨Ext.refl _, rfl⟩
                              clear hK K))
                cases hmj : mjB n vs
                · clear hmj HS1 HS2 HS3 HS4
                  refine wpO_stepQ rfl (fun K hK => ?_)
                  go_simp
                  apply Exists.intro
                  refine ⟨fun wq hwq => ?_, hK _ ?_⟩
                  · have hcq := hwq.cellS
                    go_simp
                    exact ⟨Ext.refl _, HCK2.out.at _ (hE13.trans hwq)⟩
                  clear hK K
                  repeat' (refine wpO_stepQ rfl (fun K hK => ?_)
                           go_simp
                           try (rw [if_neg (by intro h; simp [undef] at h)])
                           try split
                           all_goals
                             first
                             | (refine hK _ ?_
                                clear hK K)
                             | (apply Exists.intro
                                refine ⟨fun wq hwq => ?_, hK _ ?_⟩
                                · have hcq := hwq.cellS
                                  go_simp
                                  first
                                  | exact ⟨Ext.refl _, rfl⟩
                                clear hK K))
                  refine wpO_stepS rfl (by kernel_rfl) (fun K hK wq hwq => ?_)
                  go_simp
                  refine (HPT2.out _ (hE13.trans hwq)).mono ?_
                  rintro e w14 ⟨ap, cp, rfl, hw14⟩
                  refine ⟨hw14, hK _ _ ?_⟩
                  clear hK K
                  repeat' (refine wpO_stepQ rfl (fun K hK => ?_)
                           go_simp
                           try (rw [if_neg (by intro h; simp [undef] at h)])
                           try split
                           all_goals
                             first
                             | (refine hK _ ?_
                                clear hK K)
                             | (apply Exists.intro
                                refine ⟨fun wq hwq => ?_, hK _ ?_⟩
                                · have hcq := hwq.cellS
                                  go_simp
                                  first
                                  | exact ⟨Ext.refl _, rfl⟩
                                clear hK K))
                  refine wpO_nil (fun wz hwz => ?_)
                  go_wp2
                  go_ret
                  exact ⟨rfl, (hw.trans (hE13.trans (hwq.trans hw14))).trans hwz⟩
                · have HT1 := hide (HS1.out hmj)
                  have HT2 := hide (HS2.out hmj)
                  have HT3 := hide (HS3.out hmj)
                  rw [HS4.out hmj] at hsp ⊢
                  clear hmj HS1 HS2 HS3 HS4
                  refine wpO_stepQ rfl (fun K hK => ?_)
                  go_simp
                  apply Exists.intro
                  refine ⟨fun wq hwq => ?_, hK _ ?_⟩
                  · have hcq := hwq.cellS
                    go_simp
                    exact ⟨Ext.refl _, HCK2.out.at _ (hE13.trans hwq)⟩
                  clear hK K
                  repeat' (refine wpO_stepQ rfl (fun K hK => ?_)
                           go_simp
                           try (rw [if_neg (by intro h; simp [undef] at h)])
                           try split
                           all_goals
                             first
                             | (refine hK _ ?_
                                clear hK K)
                             | (apply Exists.intro
                                refine ⟨fun wq hwq => ?_, hK _ ?_⟩
                                · have hcq := hwq.cellS
                                  go_simp
                                  first
                                  | exact ⟨Ext.refl _, rfl⟩
                                clear hK K))
                  refine wpO_stepQ rfl (fun K hK => ?_)
                  go_simp
                  apply Exists.intro
                  refine ⟨fun wq hwq => ?_, hK _ ?_⟩
                  · have hcq := hwq.cellS
                    go_simp
                    exact ⟨Ext.refl _, HT1.out.at _ (hE13.trans hwq)⟩
                  clear hK K
                  repeat' (refine wpO_stepQ rfl (fun K hK => ?_)
                           go_simp
                           try (rw [if_neg (by intro h; simp [undef] at h)])
                           try split
                           all_goals
                             first
                             | (refine hK _ ?_
                                clear hK K)
                             | (apply Exists.intro
                                refine ⟨fun wq hwq => ?_, hK _ ?_⟩
                                · have hcq := hwq.cellS
                                  go_simp
                                  first
                                  | exact ⟨Ext.refl _, rfl⟩
                                clear hK K))
                  refine wpO_stepQ rfl (fun K hK => ?_)
                  go_simp
                  apply Exists.intro
                  refine ⟨fun wq hwq => ?_, hK _ ?_⟩
                  · have hcq := hwq.cellS
                    go_simp
                    exact ⟨Ext.refl _, HT2.out.at _ (hE13.trans hwq)⟩
                  clear hK K
                  repeat' (refine wpO_stepQ rfl (fun K hK => ?_)
                           go_simp
                           try (rw [if_neg (by intro h; simp [undef] at h)])
                           try split
                           all_goals
                             first
                             | (refine hK _ ?_
                                clear hK K)
                             | (apply Exists.intro
                                refine ⟨fun wq hwq => ?_, hK _ ?_⟩
                                · have hcq := hwq.cellS
                                  go_simp
                                  first
                                  | exact ⟨Ext.refl _, rfl⟩
                                clear hK K))
                  refine wpO_stepQ rfl (fun K hK => ?_)
                  go_simp
                  apply Exists.intro
                  refine ⟨fun wq hwq => ?_, hK _ ?_⟩
                  · have hcq := hwq.cellS
                    go_simp
                    exact ⟨Ext.refl _, HT3.out.at _ (hE13.trans hwq)⟩
                  clear hK K
                  repeat' (refine wpO_stepQ rfl (fun K hK => ?_)
                           go_simp
                           try (rw [if_neg (by intro h; simp [undef] at h)])
                           try split
                           all_goals
                             first
                             | (refine hK _ ?_
                                clear hK K)
                             | (apply Exists.intro
                                refine ⟨fun wq hwq => ?_, hK _ ?_⟩
                                · have hcq := hwq.cellS
                                  go_simp
                                  first
                                  | exact ⟨Ext.refl _, rfl⟩
                                clear hK K))
                  refine wpO_stepS rfl (by kernel_rfl) (fun K hK wq hwq => ?_)
                  go_simp
                  refine (HPT2.out _ (hE13.trans hwq)).mono ?_
                  rintro e w14 ⟨ap, cp, rfl, hw14⟩
                  refine ⟨hw14, hK _ _ ?_⟩
                  clear hK K
                  repeat' (refine wpO_stepQ rfl (fun K hK => ?_)
                           go_simp
                           try (rw [if_neg (by intro h; simp [undef] at h)])
                           try split
                           all_goals
                             first
                             | (refine hK _ ?_
                                clear hK K)
                             | (apply Exists.intro
                                refine ⟨fun wq hwq => ?_, hK _ ?_⟩
                                · have hcq := hwq.cellS
                                  go_simp
                                  first
                                  | exact ⟨Ext.refl _, rfl⟩
                                clear hK K))
                  refine wpO_nil (fun wz hwz => ?_)
                  go_wp2
                  go_ret
                  exact ⟨rfl, (hw.trans (hE13.trans (hwq.trans hw14))).trans hwz⟩
  · go_enter Try.func9, Try.ntmps9
    go_wp2
    go_ret
    exact ⟨rfl, (by repeat (first | exact Ext.refl _ | assumption | refine Ext.alloc ?_ _ | refine Ext.drew ?_ | refine Ext.trans ?_ (by assumption)))⟩

section
open Go.ChangeShapes Go.WideShapes Go.ChangeAt Go.RowKit Go.Joins Go.Deep
set_option maxRecDepth 100000 in
theorem fnPaths_lifted (os : Os) (started : os.Started) (H : Type) (enc : TypeId × Value → H) :
    ReturnsInHanded {} Try.checked os 9 .any (Rows.fnPathsSpec.pre6 enc Try.prog Try.f9 Rows.fnPathsRow.domain false) (Rows.fnPathsSpec.post enc Try.prog Try.f9 false true false false) := by
  refine returnsInHanded_of_change (C := Try.checked) own started (by kernel_rfl) Try.func9
    (ChangeSpec.witness6 (enc := enc) (C := Try.checked) false ⟨#[], #[.slice Option.none 0 0], []⟩ 8 (by kernel_rfl) (by kernel_rfl) (by kernel_rfl) (by kernel_rfl)) ?_
  intro W base args ds gs before hval0 hW hcnd _
  have hval : ∀ (j : Nat) t v, Try.f9.params[j]? = some t → args[j]? = some v → Value.okWide Try.prog W .any base t v := hval0
  have hW' := hW
  obtain ⟨p, q, hA0, hV, rfl, hfz, hnd⟩ := hW
  have hA : DataW.TrodAll enc Try.prog W 0 (fun _ => true) true Try.f9.params.toList args.toList ds p := hA0
  rw [Try.params9] at hA hval
  obtain ⟨v0, vs0, d0, ds0, p0, q0, hargs, rfl, rfl, h0, r0⟩ := trodAll_cons hA
  obtain ⟨rfl, rfl, rfl⟩ := trodAll_nil r0
  obtain rfl : args = #[v0] := by cases args; simp_all
  obtain ⟨rfl, rfl⟩ := trodVars_none hV
  have k0 := h0
  have lt0 : ∀ x ∈ p0, x.block < W.heap.size := by obtain ⟨m, hm⟩ := k0; exact DataW.trod_lt m _ _ _ hm
  obtain ⟨a0, bs0, c0, rfl, hR0, hl0⟩ := openY (hval 0 22 v0 rfl rfl) h0
  clear hA0 hval0
  refine (pat_law W a0 c0 bs0 hR0 hl0).mono fun e W' ⟨he, bel⟩ => ?_
  subst he
  exact ⟨_, rfl, _, _, _, [], _, [], hW', trodAll_mk1 (shut_bool Try.underlying4 _), (trodAll_cons_mk (Below.trod laidOut (by kernel_rfl) (of_decide_eq_true (by kernel_rfl)) k0 bel lt0) trodAll_mk0), rfl, bel.frame _, fun h => by cases h⟩

set_option maxRecDepth 100000 in
theorem fnPaths_holds : Rows.FnPathsSaid :=
  OpenClaim.holds_of_wide 9 Try.f9 rfl rfl rfl rfl rfl rfl rfl ⟨rfl, rfl, rfl, rfl, rfl⟩ rfl rfl rfl rfl rfl (by kernel_rfl) Try.func9 (by kernel_rfl)
    (of_decide_eq_true (by kernel_rfl)) (by unfold Func.isWrapper; first | (rw [if_pos (by decide +kernel)]; kernel_rfl) | (rw [if_neg (by decide +kernel)]; exact ⟨rfl, rfl⟩))
    (fun os started H enc _ => fnPaths_lifted os started H enc)
#print axioms fnPaths_holds
end

end Go.Proofs.Ythiojkpoeejkaaa
