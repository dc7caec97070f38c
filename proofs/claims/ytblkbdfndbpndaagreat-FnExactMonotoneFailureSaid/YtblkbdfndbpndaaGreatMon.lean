/- A vote in which the winner is raised and with which it no longer wins, of the program and of the spec. -/
import Derived.Test.YtblkbdfndbpndaaGreatWin
import Derived.Test.YtblkbdfndbpndaaGreatWth2
namespace Go.Proofs.YtblkbdfndbpndaaGreat
open Go.RowKit

set_option maxRecDepth 100000 in
set_option maxHeartbeats 4000000 in
theorem mon_impl (w : World) (rule sz : Int) (a : Option Addr) (c : Nat) (vs : List Vt) (hR : RdV w a vs) :
    Calls Tryz.prog 39 #[.int .i64 rule, .agg #[.int .i64 sz, .slice a vs.length c]] w fun e w' => e = .returned (.int .i64 (monO rule sz vs)) ∧ Ext w w' := by
  have q0 := new0 w (.int .i64 sz) [.slice a vs.length c] 29
  have q1 := new1 w (.int .i64 sz) (.slice a vs.length c) [] 29
  obtain ⟨ww, hww⟩ : ∃ ww, ww = winB rule sz vs := ⟨_, rfl⟩
  have HWB : Hid (∀ w', Ext w w' → Calls Tryz.prog 18 #[.int .i64 rule, .agg #[.int .i64 sz, .slice a vs.length c]] w' fun e w'' => e = .returned (.int .i64 ww) ∧ Ext w' w'') := fun w' hw' => by
    rw [hww]; exact winb_impl w' rule sz a c vs (hR.ext hw')
  by_cases h1 : ww < 0
  · have HF : Hid (monO rule sz vs = -1) := hide (by unfold monO; rw [← hww, if_pos h1])
    clear hww
    go_enter Tryz.func39, Tryz.ntmps39
    go_wp2_with (go_at_call 18; refine (HWB.out _ (by repeat (first | exact Ext.refl _ | assumption | refine Ext.alloc ?_ _ | refine Ext.drew ?_ | refine Ext.trans ?_ (by assumption)))).mono ?_; rintro e w1 ⟨rfl, hw1⟩; have q0 := Ext.keep (w' := w1) (by repeat (first | exact Ext.refl _ | assumption | refine Ext.alloc ?_ _ | refine Ext.drew ?_ | refine Ext.trans ?_ (by assumption))) q0; have q1 := Ext.keep (w' := w1) (by repeat (first | exact Ext.refl _ | assumption | refine Ext.alloc ?_ _ | refine Ext.drew ?_ | refine Ext.trans ?_ (by assumption))) q1)
    go_ret
    exact ⟨ret_int HF.out.symm, (by repeat (first | exact Ext.refl _ | assumption | refine Ext.alloc ?_ _ | refine Ext.drew ?_ | refine Ext.trans ?_ (by assumption)))⟩
  obtain ⟨h0, _, _⟩ := winB_pos (rule := rule) (sz := sz) (vs := vs) (by rw [← hww]; omega)
  have HF : Hid (monO rule sz vs = firstN vs.length (monQ rule sz vs ww)) := hide (by unfold monO; rw [← hww, if_neg h1])
  have H0 := hide h0
  have hvl := (prof_small h0).1
  clear hww h0
  go_enter Tryz.func39, Tryz.ntmps39
  go_wp2_with (go_at_call 18; refine (HWB.out _ (by repeat (first | exact Ext.refl _ | assumption | refine Ext.alloc ?_ _ | refine Ext.drew ?_ | refine Ext.trans ?_ (by assumption)))).mono ?_; rintro e w1 ⟨rfl, hw1⟩; have q0 := Ext.keep (w' := w1) (by repeat (first | exact Ext.refl _ | assumption | refine Ext.alloc ?_ _ | refine Ext.drew ?_ | refine Ext.trans ?_ (by assumption))) q0; have q1 := Ext.keep (w' := w1) (by repeat (first | exact Ext.refl _ | assumption | refine Ext.alloc ?_ _ | refine Ext.drew ?_ | refine Ext.trans ?_ (by assumption))) q1)
  have hw : Ext w w1 := (by repeat (first | exact Ext.refl _ | assumption | refine Ext.alloc ?_ _ | refine Ext.drew ?_ | refine Ext.trans ?_ (by assumption)))
  obtain ⟨wb, hwb⟩ : ∃ wb : World, wb = w1 := ⟨_, rfl⟩
  subst hwb
  have Q0 := q0
  have Q1 := q1
  clear hw1 HWB
  go_loopw [6, 7, 8, 9, 10, 11, 20] (fun _ _ _ _ _ _ i wr => ∃ k : Nat, k ≤ vs.length ∧ i = .int .i64 k ∧ Hid (∀ j, j < k → monQ rule sz vs ww j = false) ∧ Ext wb wr) (fun _ _ _ _ _ _ i _ => vs.length - (intOf i).toNat)
  case atStart => exact ⟨0, Nat.zero_le _, rfl, fun j hj => absurd hj (by omega), Ext.refl _⟩
  case round =>
    obtain ⟨k, hk, rfl, hno, hwr⟩ := hrel
    by_cases hkt : k < vs.length
    · obtain ⟨x, hx⟩ := at_of_lt hkt
      obtain ⟨b, off, a', c', rfl, c0, c1, hc', hRx⟩ := (hR.ext (hw.trans hwr)).at_ hx
      have hrk := ((prof_small H0.out).2 x (List.mem_of_getElem? hx)).1
      have hrl := rk_len hrk
      have hgd : vs.getD k ([], 0) = x := by simp [List.getD, hx]
      have e0 := new0 wr (.slice a' x.1.length c') [.int .i64 x.2] 60
      have e1 := new1 wr (.slice a' x.1.length c') (.int .i64 x.2) [] 60
      have hE := Ext.new wr (.cells #[.slice a' x.1.length c', .int .i64 x.2] 60)
      have q0 := hwr.keep Q0
      have q1 := hwr.keep Q1
      have HRA := hide (raise_impl (wr.alloc (.cells #[.slice a' x.1.length c', .int .i64 x.2] 60)) a' c' x.1.length x.1 ww (by rw [hrl.1]; exact hrk) rfl (hRx.ext hE) hc')
      have HRK : Hid (∀ i : Nat, i < x.1.length → rkOk sz (raiseL x.1 i) = true) := fun i hi => raise_ok hrk hi
      have HX := hide hx
      have hk1 : k + 1 ≤ vs.length := by omega
      obtain ⟨W, hW⟩ : ∃ W, W = winB rule sz (vs.set k (raiseL x.1 (placeI x.1 ww).toNat, x.2)) := ⟨_, rfl⟩
      have HMQ : Hid (monQ rule sz vs ww k = (decide (1 ≤ placeI x.1 ww) && !(W == ww))) := hide (by unfold monQ; rw [hgd, hW])
      have HWI : Hid (∀ w' a3 c3, RdV w' a3 (vs.set k (raiseL x.1 (placeI x.1 ww).toNat, x.2)) → Calls Tryz.prog 18 #[.int .i64 rule, .agg #[.int .i64 sz, .slice a3 vs.length c3]] w' fun e w'' => e = .returned (.int .i64 W) ∧ Ext w' w'') := fun w' a3 c3 hR3 => by
        have h := winb_impl w' rule sz a3 c3 _ hR3
        rw [List.length_set, ← hW] at h
        exact h
      have HPL : Hid (1 ≤ placeI x.1 ww → (placeI x.1 ww).toNat < x.1.length) := fun h => by
        obtain ⟨i, hi, hi2, _⟩ := place_some (xs := x.1) (x := ww) (by omega)
        rw [hi, Int.toNat_natCast]; exact hi2
      have hraw : Ext w (wr.alloc (.cells #[.slice a' x.1.length c', .int .i64 x.2] 60)) := (hw.trans hwr).trans hE
      clear hx hgd hW hrk hrl
      have q0 := hE.keep q0
      have q1 := hE.keep q1
      by_cases hp : 1 ≤ placeI x.1 ww
      · rw [decide_eq_true hp] at HRA HMQ
        go_wp2_with fail
        refine HRA.out.mono ?_
        rintro e w2 ⟨v, rfl, hv, hw2⟩
        have hv := hv hp
        have hkx := HPL.out hp
        have hrk2 := HRK.out _ hkx
        generalize raiseL x.1 (placeI x.1 ww).toNat = r at hv hrk2 HWI
        obtain ⟨a3, c3, rfl, hc3, _, hR3, _⟩ := hv.val
        have q0 := hw2.keep q0
        have q1 := hw2.keep q1
        have HWR := hide (withR_impl w2 sz (some ⟨b, off, none⟩) a3 c c3 k vs r x HX.out (hR.ext (hraw.trans hw2)) hR3 H0.out hrk2 hc3)
        clear hv hR3 hrk2 HRA HPL HRK hkx hp
        go_wp2_with fail
        refine HWR.out.mono ?_
        rintro e w3 ⟨a4, c4, rfl, hR4, hw3⟩
        have HR4 := hide hR4
        have HWJ := hide (HWI.out (w3.alloc (.cells #[.int .i64 sz, .slice a4 vs.length c4] 29)) a4 c4 (HR4.out.ext (Ext.new _ _)))
        clear hR4 HWI HWR
        cases he : (W == ww)
        · rw [he] at HMQ
          have HR2 : Hid (firstN vs.length (monQ rule sz vs ww) = k) := firstN_some hkt hno.out HMQ.out
          have t1 : (W != ww) = true := by rw [bne, he]; rfl
          go_wp2_with fail
          refine HWJ.out.mono ?_
          rintro e w4 ⟨rfl, hw4⟩
          go_wp2
          go_ret
          exact ⟨ret_int (by rw [HF.out, HR2.out]), (by repeat (first | exact Ext.refl _ | assumption | refine Ext.alloc ?_ _ | refine Ext.drew ?_ | refine Ext.trans ?_ (by assumption)))⟩
        · rw [he] at HMQ
          have HN := none_succ hno.out HMQ.out
          have t1 : (W != ww) = false := by rw [bne, he]; rfl
          go_wp2_with fail
          refine HWJ.out.mono ?_
          rintro e w4 ⟨rfl, hw4⟩
          go_wp2
          exact ⟨⟨k + 1, hk1, by go_num, HN, (by repeat (first | exact Ext.refl _ | assumption | refine Ext.alloc ?_ _ | refine Ext.drew ?_ | refine Ext.trans ?_ (by assumption)))⟩, by simp [intOf]; omega⟩
      · rw [decide_eq_false hp] at HRA HMQ
        have HN := none_succ hno.out HMQ.out
        clear hp
        go_wp2_with fail
        refine HRA.out.mono ?_
        rintro e w2 ⟨v, rfl, hv, hw2⟩
        clear hv
        go_wp2
        exact ⟨⟨k + 1, hk1, by go_num, HN, (by repeat (first | exact Ext.refl _ | assumption | refine Ext.alloc ?_ _ | refine Ext.drew ?_ | refine Ext.trans ?_ (by assumption)))⟩, by simp [intOf]; omega⟩
    · have HN : Hid (firstN vs.length (monQ rule sz vs ww) = -1) := firstN_none (fun j hj => hno.out j (by omega))
      go_wp2
      go_ret
      exact ⟨ret_int (by rw [HF.out, HN.out]), hw.trans hwr⟩

set_option maxRecDepth 100000 in
set_option maxHeartbeats 4000000 in
theorem mon_spec (w : World) (rule sz : Int) (a : Option Addr) (c : Nat) (vs : List Vt) (hR : RdV w a vs) :
    Calls Tryz.prog 38 #[.int .i64 rule, .agg #[.int .i64 sz, .slice a vs.length c]] w fun e w' => e = .returned (.int .i64 (monO rule sz vs)) ∧ Ext w w' := by
  have q0 := new0 w (.int .i64 sz) [.slice a vs.length c] 29
  have q1 := new1 w (.int .i64 sz) (.slice a vs.length c) [] 29
  obtain ⟨ww, hww⟩ : ∃ ww, ww = winB rule sz vs := ⟨_, rfl⟩
  have HWB : Hid (∀ w', Ext w w' → Calls Tryz.prog 16 #[.int .i64 rule, .agg #[.int .i64 sz, .slice a vs.length c]] w' fun e w'' => e = .returned (.int .i64 ww) ∧ Ext w' w'') := fun w' hw' => by
    rw [hww]; exact winb_spec w' rule sz a c vs (hR.ext hw')
  by_cases h1 : ww < 0
  · have HF : Hid (monO rule sz vs = -1) := hide (by unfold monO; rw [← hww, if_pos h1])
    clear hww
    go_enter Tryz.func38, Tryz.ntmps38
    go_wp2_with (go_at_call 16; refine (HWB.out _ (by repeat (first | exact Ext.refl _ | assumption | refine Ext.alloc ?_ _ | refine Ext.drew ?_ | refine Ext.trans ?_ (by assumption)))).mono ?_; rintro e w1 ⟨rfl, hw1⟩; have q0 := Ext.keep (w' := w1) (by repeat (first | exact Ext.refl _ | assumption | refine Ext.alloc ?_ _ | refine Ext.drew ?_ | refine Ext.trans ?_ (by assumption))) q0; have q1 := Ext.keep (w' := w1) (by repeat (first | exact Ext.refl _ | assumption | refine Ext.alloc ?_ _ | refine Ext.drew ?_ | refine Ext.trans ?_ (by assumption))) q1)
    go_ret
    exact ⟨ret_int HF.out.symm, (by repeat (first | exact Ext.refl _ | assumption | refine Ext.alloc ?_ _ | refine Ext.drew ?_ | refine Ext.trans ?_ (by assumption)))⟩
  obtain ⟨h0, _, _⟩ := winB_pos (rule := rule) (sz := sz) (vs := vs) (by rw [← hww]; omega)
  have HF : Hid (monO rule sz vs = firstN vs.length (monQ rule sz vs ww)) := hide (by unfold monO; rw [← hww, if_neg h1])
  have H0 := hide h0
  have hvl := (prof_small h0).1
  clear hww h0
  go_enter Tryz.func38, Tryz.ntmps38
  go_wp2_with (go_at_call 16; refine (HWB.out _ (by repeat (first | exact Ext.refl _ | assumption | refine Ext.alloc ?_ _ | refine Ext.drew ?_ | refine Ext.trans ?_ (by assumption)))).mono ?_; rintro e w1 ⟨rfl, hw1⟩; have q0 := Ext.keep (w' := w1) (by repeat (first | exact Ext.refl _ | assumption | refine Ext.alloc ?_ _ | refine Ext.drew ?_ | refine Ext.trans ?_ (by assumption))) q0; have q1 := Ext.keep (w' := w1) (by repeat (first | exact Ext.refl _ | assumption | refine Ext.alloc ?_ _ | refine Ext.drew ?_ | refine Ext.trans ?_ (by assumption))) q1)
  have hw : Ext w w1 := (by repeat (first | exact Ext.refl _ | assumption | refine Ext.alloc ?_ _ | refine Ext.drew ?_ | refine Ext.trans ?_ (by assumption)))
  obtain ⟨wb, hwb⟩ : ∃ wb : World, wb = w1 := ⟨_, rfl⟩
  subst hwb
  have Q0 := q0
  have Q1 := q1
  clear hw1 HWB
  go_loopw [6, 7, 8, 9, 10, 19] (fun _ _ _ _ _ i wr => ∃ k : Nat, k ≤ vs.length ∧ i = .int .i64 k ∧ Hid (∀ j, j < k → monQ rule sz vs ww j = false) ∧ Ext wb wr) (fun _ _ _ _ _ i _ => vs.length - (intOf i).toNat)
  case atStart => exact ⟨0, Nat.zero_le _, rfl, fun j hj => absurd hj (by omega), Ext.refl _⟩
  case round =>
    obtain ⟨k, hk, rfl, hno, hwr⟩ := hrel
    by_cases hkt : k < vs.length
    · obtain ⟨x, hx⟩ := at_of_lt hkt
      obtain ⟨b, off, a', c', rfl, c0, c1, hc', hRx⟩ := (hR.ext (hw.trans hwr)).at_ hx
      have hrk := ((prof_small H0.out).2 x (List.mem_of_getElem? hx)).1
      have hrl := rk_len hrk
      have hgd : vs.getD k ([], 0) = x := by simp [List.getD, hx]
      have e0 := new0 wr (.slice a' x.1.length c') [.int .i64 x.2] 60
      have e1 := new1 wr (.slice a' x.1.length c') (.int .i64 x.2) [] 60
      have hE := Ext.new wr (.cells #[.slice a' x.1.length c', .int .i64 x.2] 60)
      have q0 := hwr.keep Q0
      have q1 := hwr.keep Q1
      have HRA := hide (raise_spec (wr.alloc (.cells #[.slice a' x.1.length c', .int .i64 x.2] 60)) a' c' x.1.length x.1 ww (by rw [hrl.1]; exact hrk) rfl (hRx.ext hE))
      have HX := hide hx
      have hk1 : k + 1 ≤ vs.length := by omega
      obtain ⟨W, hW⟩ : ∃ W, W = winB rule sz (vs.set k (raiseL x.1 (placeI x.1 ww).toNat, x.2)) := ⟨_, rfl⟩
      have HMQ : Hid (monQ rule sz vs ww k = (decide (1 ≤ placeI x.1 ww) && !(W == ww))) := hide (by unfold monQ; rw [hgd, hW])
      have HWI : Hid (∀ w' a3 c3, RdV w' a3 (vs.set k (raiseL x.1 (placeI x.1 ww).toNat, x.2)) → Calls Tryz.prog 16 #[.int .i64 rule, .agg #[.int .i64 sz, .slice a3 vs.length c3]] w' fun e w'' => e = .returned (.int .i64 W) ∧ Ext w' w'') := fun w' a3 c3 hR3 => by
        have h := winb_spec w' rule sz a3 c3 _ hR3
        rw [List.length_set, ← hW] at h
        exact h
      have hraw : Ext w (wr.alloc (.cells #[.slice a' x.1.length c', .int .i64 x.2] 60)) := (hw.trans hwr).trans hE
      clear hx hgd hW hrk hrl
      have q0 := hE.keep q0
      have q1 := hE.keep q1
      by_cases hp : 1 ≤ placeI x.1 ww
      · rw [decide_eq_true hp] at HRA HMQ
        go_wp2_with fail
        refine HRA.out.mono ?_
        rintro e w2 ⟨v, rfl, hv, hw2⟩
        have hv := hv hp
        generalize raiseL x.1 (placeI x.1 ww).toNat = r at hv HWI
        obtain ⟨a3, c3, rfl, hc3, _, hR3, hb3⟩ := hv.val
        have q0 := hw2.keep q0
        have q1 := hw2.keep q1
        have HCP := hide (copy_spec w2 sz (some ⟨b, off, none⟩) c vs (hR.ext (hraw.trans hw2)) H0.out)
        clear hv HRA hp
        go_wp2_with fail
        refine HCP.out.mono ?_
        rintro e w3 ⟨v, es, rfl, hl, hm, hw3⟩
        rw [map_same] at hm
        have hel := vtsOf_len hm
        obtain ⟨g, c4, rfl, hc4, hg, hgl⟩ := hl.at0 (fun e => by rw [e] at hel; simp at hel; omega)
        obtain ⟨en, hen, he1, he2⟩ := vtsOf_at hm HX.out
        rw [hel] at hc4 hl ⊢
        have hbe := hl.1.own
        rw [hel] at hbe
        have hE3 := Ext.new w3 (.cells #[.int .i64 sz, .slice (some ⟨g, 0, none⟩) vs.length c4] 29)
        have b0 := (hbe.ext hE3).cell (k * 2) (by omega)
        have z0 := (hbe.ext hE3).fr (k * 2)
        have hR3' := hR3.ext hw3
        have hws := hw2.size
        obtain ⟨hset, hO⟩ := (hl.base hws).setRd hen hR3' rfl hc3 (fun hne b2 off2 hab => by
          obtain ⟨g3, hg3, hb4, hbl⟩ := hb3 hne
          rw [hg3] at hab
          injection hab with hab
          injection hab with hab
          have h1 := hbl.lt
          subst hab
          exact ⟨hb4, by omega⟩)
        rw [hm, he2] at hset
        have hwg : w.heap.size ≤ g := Nat.le_trans (hraw.trans hw2).size hg
        have hE5 := (Only.ext (hraw.trans (hw2.trans hw3)) hO hwg).trans (Ext.new _ (.cells #[.int .i64 sz, .slice (some ⟨g, 0, none⟩) vs.length c4] 29))
        have HWJ := hide (HWI.out _ (some ⟨g, 0, none⟩) c4 (hset.rd.ext (Ext.new _ (.cells #[.int .i64 sz, .slice (some ⟨g, 0, none⟩) vs.length c4] 29))))
        obtain ⟨u0, hu0⟩ : ∃ u, u = (vtL es).getD (k * 2) undef := ⟨_, rfl⟩
        rw [← hu0] at b0
        clear hset hO hl hm hen he1 he2 hbe hR3' hR3 hb3 HWI HCP hu0 hel
        cases he : (W == ww)
        · rw [he] at HMQ
          have HR2 : Hid (firstN vs.length (monQ rule sz vs ww) = k) := firstN_some hkt hno.out HMQ.out
          have t1 : (W != ww) = true := by rw [bne, he]; rfl
          go_wp2_with fail
          refine HWJ.out.mono ?_
          rintro e w4 ⟨rfl, hw4⟩
          go_wp2
          go_ret
          exact ⟨ret_int (by rw [HF.out, HR2.out]), hE5.trans hw4⟩
        · rw [he] at HMQ
          have HN := none_succ hno.out HMQ.out
          have t1 : (W != ww) = false := by rw [bne, he]; rfl
          have hE6 := (Only.ext (W := wb) (hwr.trans (hE.trans (hw2.trans hw3))) (Only.setCell (Only.refl g _) (k * 2) (.slice a3 r.length c3)) (by have := hwr.size; have := hE.size; omega)).trans (Ext.new _ (.cells #[.int .i64 sz, .slice (some ⟨g, 0, none⟩) vs.length c4] 29))
          go_wp2_with fail
          refine HWJ.out.mono ?_
          rintro e w4 ⟨rfl, hw4⟩
          go_wp2
          exact ⟨⟨k + 1, hk1, by go_num, HN, hE6.trans hw4⟩, by simp [intOf]; omega⟩
      · rw [decide_eq_false hp] at HRA HMQ
        have HN := none_succ hno.out HMQ.out
        clear hp
        go_wp2_with fail
        refine HRA.out.mono ?_
        rintro e w2 ⟨v, rfl, hv, hw2⟩
        clear hv
        go_wp2
        exact ⟨⟨k + 1, hk1, by go_num, HN, (by repeat (first | exact Ext.refl _ | assumption | refine Ext.alloc ?_ _ | refine Ext.drew ?_ | refine Ext.trans ?_ (by assumption)))⟩, by simp [intOf]; omega⟩
    · have HN : Hid (firstN vs.length (monQ rule sz vs ww) = -1) := firstN_none (fun j hj => hno.out j (by omega))
      go_wp2
      go_ret
      exact ⟨ret_int (by rw [HF.out, HN.out]), hw.trans hwr⟩

end Go.Proofs.YtblkbdfndbpndaaGreat
