/- FnGains answers true at every input. -/
import Derived.Test.YtfmeklgdaabooaaGreatDoorCn4
import Derived.Test.YtfmeklgdaabooaaGreatDoorCn10
import Derived.Test.YtfmeklgdaabooaaGreatDoorCn24
import Derived.Test.YtfmeklgdaabooaaGreatDoorCn25
import Derived.Test.YtfmeklgdaabooaaGreatDoorCn23
import Derived.Test.YtfmeklgdaabooaaGreatDoorCn20
namespace Go.Proofs.YtfmeklgdaabooaaGreatDoor
open Go.RowKit

set_option maxRecDepth 100000 in
theorem take_ok {n : Nat} {vs : List Vt} (h : profOk n vs = true) (k : Nat) : profOk n (vs.take k) = true := by
  unfold profOk at h ⊢
  simp only [Bool.and_eq_true, decide_eq_true_eq, List.all_eq_true] at h ⊢
  exact ⟨h.1, by rw [List.length_take]; omega, fun x hx => h.2.2 x (List.mem_of_mem_take hx)⟩

set_option maxRecDepth 100000 in
set_option maxHeartbeats 16000000 in
theorem gns_law (w : World) (a : Option Addr) (c : Nat) (bs : List Int) (hR : RdY w a bs) (_ : bs.length ≤ maxLen) :
    Calls Tryz.prog 3 #[.slice a bs.length c] w fun e w' => e = .returned (.bool true) ∧ Ext w w' := by
  by_cases hb : bs.length ≤ 1048576
  · go_enter Tryz.func3, Tryz.ntmps3
    go_wp2_with fail
    refine (numY_spec _ a c 0 bs (hR.ext (by repeat (first | exact Ext.refl _ | assumption | refine Ext.alloc ?_ _ | refine Ext.drew ?_ | refine Ext.trans ?_ (by assumption)))) hb (by omega)).mono ?_
    rintro e w1 ⟨x, rfl, hx, hw1⟩
    go_wp2_with fail
    obtain ⟨n, hn, n2, n3⟩ : ∃ n : Nat, 2 + (x : Int) % 2 = n ∧ 2 ≤ n ∧ n ≤ 3 := ⟨(2 + (x : Int) % 2).toNat, by omega, by omega, by omega⟩
    rw [hn]
    clear hn hx
    refine (mkprofC_spec _ a c 2 n bs (hR.ext (by repeat (first | exact Ext.refl _ | assumption | refine Ext.alloc ?_ _ | refine Ext.drew ?_ | refine Ext.trans ?_ (by assumption)))) hb (by omega) (by omega) (by omega)).mono ?_
    rintro e w2 ⟨v, rfl, a', vs, c', rfl, hRV, ⟨h0, v1, v5, v6⟩, hw2, hcap⟩
    have q0 := new0 w2 (.int .i64 n) [.slice a' vs.length c'] 26
    have q1 := new1 w2 (.int .i64 n) (.slice a' vs.length c') [] 26
    have hE := Ext.new w2 (.cells #[.int .i64 n, .slice a' vs.length c'] 26)
    have HNUM : Hid (∀ W' (k : Nat), k ≤ 1000 → Ext w W' → Calls Tryz.prog 4 #[.slice a bs.length c, .int .i64 k] W' fun e w' => ∃ x : Nat, e = .returned (.int .i64 x) ∧ x ≤ 65536 ∧ Ext W' w') := hide (fun W' k hk hW' => (numY_spec W' a c k bs (hR.ext hW') hb hk).mono fun e w' ⟨x, h1, h2, h3⟩ => ⟨x, h1, by omega, h3⟩)
    clear hR hb
    have hw0 : Ext w w2 := hw1.trans hw2
    clear hE q0 q1
    obtain ⟨b3, off3, rfl, hju⟩ := hRV (List.ne_nil_of_length_pos (by omega))
    clear hju
    by_cases h3 : 3 < vs.length
    · have h3' : (3 : Int) < (vs.length : Int) := by omega
      have hc3 : 3 ≤ c' := by omega
      have hc3' : (3 : Int) ≤ (c' : Int) := by omega
      have q0 := new0 w2 (.int .i64 n) [.slice (some ⟨b3, off3, none⟩) vs.length c'] 26
      have q1 := new1 w2 (.int .i64 n) (.slice (some ⟨b3, off3, none⟩) vs.length c') [] 26
      go_wp2_with fail
      clear q0 q1
      have hRP := hRV.take 3
      have h6 : ∀ x ∈ vs.take 3, x.2 ≤ 6 := fun x hx => v6 x (List.mem_of_mem_take hx)
      have h0 := take_ok h0 3
      have hpl : (vs.take 3).length = 3 := by rw [List.length_take]; omega
      generalize vs.take 3 = ps at hRP h6 h0 hpl
      clear h3 h3' hc3 hc3' hRV v1 v5 v6 hcap
      have q0 := new0 w2 (.int .i64 n) [.slice (some ⟨b3, off3, none⟩) 3 c'] 26
      have q1 := new1 w2 (.int .i64 n) (.slice (some ⟨b3, off3, none⟩) 3 c') [] 26
      have hE := Ext.new w2 (.cells #[.int .i64 n, .slice (some ⟨b3, off3, none⟩) 3 c'] 26)
      have hw := hw0.trans hE
      replace hRP := hRP.ext hE
      generalize w2.alloc (.cells #[.int .i64 n, .slice (some ⟨b3, off3, none⟩) 3 c'] 26) = W1 at q0 q1 hw hRP ⊢
      clear hE hw0
      have HS := hide (prof_small h0)
      have hlt5 := (prof_small h0).1
      refine (HNUM.out _ 60 (by omega) hw).mono ?_
      rintro e w3 ⟨x3, rfl, _, hw3⟩
      obtain ⟨ru, hru, r1, r2⟩ : ∃ ru : Nat, 1 + (x3 : Int) % 13 = ru ∧ 1 ≤ ru ∧ ru ≤ 13 := ⟨(1 + (x3 : Int) % 13).toNat, by omega, by omega, by omega⟩
      replace q0 := hw3.keep q0
      replace q1 := hw3.keep q1
      go_wp2_with fail
      clear hru
      refine wp_region_O [0,2,3,4,1,5,6] (by kernel_rfl) rfl (by kernel_rfl) ?_
      repeat' (refine wpO_stepQ rfl (fun K hK => ?_)
               go_simp
               try (rw [if_neg (by intro h; simp [undef] at h)])
               try split
               all_goals
                 first
                 | (refine hK _ ?_
                    clear hK K)
                 | (apply Exists.intro
                    refine ⟨fun wq hwq => ?_, hK _ ?_⟩
                    · have hcq := hwq.cellS
                      go_simp
                      first
                      | exact ⟨Ext.refl _, rfl⟩
                    clear hK K))
      refine wpO_stepS rfl (by kernel_rfl) (fun K hK wq hwq => ?_)
      go_simp
      refine (HNUM.out _ 62 (by omega) (hw.trans (hw3.trans hwq))).mono ?_
      rintro e w4 ⟨x4, rfl, _, hw4⟩
      refine ⟨hw4, hK _ _ ?_⟩
      clear hK K
      have hE4 := hw3.trans (hwq.trans hw4)
      replace q0 := (hwq.trans hw4).keep q0
      replace q1 := (hwq.trans hw4).keep q1
      have hLp : 0 < 3 := by omega
      have hq : (x4 : Int) % 3 = ((x4 % 3 : Nat) : Int) := by omega
      have hkl := Nat.mod_lt x4 hLp
      generalize x4 % 3 = k at hq hkl
      clear hwq hw4 hw3 HNUM
      repeat' (refine wpO_stepQ rfl (fun K hK => ?_)
               go_simp
               try (rw [if_neg (by intro h; simp [undef] at h)])
               try split
               all_goals
                 first
                 | (refine hK _ ?_
                    clear hK K)
                 | (apply Exists.intro
                    refine ⟨fun wq hwq => ?_, hK _ ?_⟩
                    · have hcq := hwq.cellS
                      go_simp
                      first
                      | exact ⟨Ext.refl _, rfl⟩
                    clear hK K))
      refine wpO_nil (fun wz hwz => ?_)
      rw [Int.tmod_eq_emod_of_nonneg (show (0 : Int) ≤ (x4 : Int) by omega), hq]
      clear hq
      replace hE4 := hE4.trans hwz
      replace q0 := hwz.keep q0
      replace q1 := hwz.keep q1
      clear hwz
      obtain ⟨x, hx⟩ := at_of_lt (xs := ps) (k := k) (by omega)
      obtain ⟨b4, off4, at', ct, e9, c0, _, hct, hRx⟩ := (hRP.ext hE4).at_ hx
      injection e9 with e9
      injection e9 with e9 e10
      subst e9
      subst e10
      have hxk := (HS.out.2 x (List.mem_of_getElem? hx)).1
      have hxl := (rk_len hxk).2
      obtain ⟨y, wn, hG⟩ := gns_f (rule := ru) h0 (by omega) (by omega) (by omega) hx
      obtain ⟨C, hC⟩ := gns_c (rule := ru) h0 (by omega) (by omega) (by omega)
      have HREA : Hid (∀ W, Ext W1 W → Calls Tryz.prog 6 #[.int .i64 ru, .agg #[.int .i64 n, .slice (some ⟨b3, off3, none⟩) 3 c'], .int .i64 k] W fun e w' => ∃ ar cr, e = .returned (.slice ar (reaO ru n ps k).length cr) ∧ RdI w' ar (reaO ru n ps k) ∧ Ext W w') := hide (fun W hW => by
        have h := rea_impl W ru n (some ⟨b3, off3, none⟩) c' ps k (hRP.ext hW)
        rw [hpl] at h
        exact h.mono fun e w' ⟨v, h1, h2, h3⟩ => by
          obtain ⟨ar, cr, hv, _, _, hRr, _⟩ := h2.val
          exact ⟨ar, cr, by rw [h1, hv], hRr, h3⟩)
      have HBST : Hid (∀ W, Ext W1 W → Calls Tryz.prog 7 #[.int .i64 ru, .agg #[.int .i64 n, .slice (some ⟨b3, off3, none⟩) 3 c'], .int .i64 k] W fun e w' => ∃ ar cr, e = .returned (.tuple #[.slice ar (bstO ru n ps k).length cr, .bool true]) ∧ RdI w' ar (bstO ru n ps k) ∧ (bstO ru n ps k).length ≤ cr ∧ Ext W w') := hide (fun W hW => by
        have h := bst_impl W ru n (some ⟨b3, off3, none⟩) c' ps k (hRP.ext hW)
        rw [hG.gn] at h
        rw [hpl] at h
        exact h.mono fun e w' ⟨v, h1, h2, h3⟩ => by
          obtain ⟨ar, cr, hv, hcr, _, hRr, _⟩ := h2.val
          exact ⟨ar, cr, by rw [h1, hv], hRr, hcr, h3⟩)
      have HWR : Hid (∀ W ar cr, Ext W1 W → RdI W ar (bstO ru n ps k) → (bstO ru n ps k).length ≤ cr → Calls Tryz.prog 8 #[.agg #[.int .i64 n, .slice (some ⟨b3, off3, none⟩) 3 c'], .int .i64 k, .slice ar (bstO ru n ps k).length cr] W fun e w' => ∃ a3 c3, e = .returned (.tuple #[.agg #[.int .i64 n, .slice a3 3 c3], .bool true]) ∧ RdV w' a3 (ps.set k (bstO ru n ps k, x.2)) ∧ Ext W w') := hide (fun W ar cr hW hRr hcr => by
        have h := withR_impl W n (some ⟨b3, off3, none⟩) ar c' cr k ps (bstO ru n ps k) x hx (hRP.ext hW) hRr h0 hG.rk hcr
        rw [hpl] at h
        exact h)
      have HWQ : Hid (∀ W a3 c3, RdV W a3 (ps.set k (bstO ru n ps k, x.2)) → Calls Tryz.prog 9 #[.int .i64 ru, .agg #[.int .i64 n, .slice a3 3 c3]] W fun e w' => e = .returned (.int .i64 y) ∧ Ext W w') := hide (fun W a3 c3 h3 => by
        have h := winb_impl W ru n a3 c3 _ h3
        rw [List.length_set, hG.win] at h
        rw [hpl] at h
        exact h)
      have HWP : Hid (ValC 9 #[.int .i64 ru, .agg #[.int .i64 n, .slice (some ⟨b3, off3, none⟩) 3 c']] W1 (.int .i64 wn)) := hide (fun W hW => by
        have h := winb_impl W ru n (some ⟨b3, off3, none⟩) c' ps (hRP.ext hW)
        rw [hG.wnE] at h
        rw [hpl] at h
        exact h)
      have HPF : Hid (∀ z u : Int, ValC 10 #[.slice at' x.1.length ct, .int .i64 z, .int .i64 u] wz (.bool (prefB x.1 z u))) := hide (fun z u W hW => pref_impl W at' ct x.1 z u (hRx.ext hW) (by omega))
      have HGB : Hid (∀ W, Ext W1 W → Calls Tryz.prog 11 #[.int .i64 ru, .agg #[.int .i64 n, .slice (some ⟨b3, off3, none⟩) 3 c'], .int .i64 k] W fun e w' => ∃ v, e = .returned (.tuple #[v, .bool (prefB x.1 y wn)]) ∧ GbR w' (prefB x.1 y wn) (bstO ru n ps k) v ∧ Ext W w') := hide (fun W hW => by
        have h := gbr_impl W ru n (some ⟨b3, off3, none⟩) c' ps k (hRP.ext hW)
        rw [hG.gain] at h
        rw [hpl] at h
        exact h)
      have HCG : Hid (ValC 14 #[.int .i64 ru, .agg #[.int .i64 n, .slice (some ⟨b3, off3, none⟩) 3 c']] W1 (.int .i64 C)) := hide (fun W hW => by
        have h := gcnt_impl W ru n (some ⟨b3, off3, none⟩) c' ps (by omega) (hRP.ext hW)
        rw [hC.cnt] at h
        rw [hpl] at h
        exact h)
      have HFG : Hid (ValC 15 #[.int .i64 ru, .agg #[.int .i64 n, .slice (some ⟨b3, off3, none⟩) 3 c']] W1 (.int .i64 (gfstO ru n ps))) := hide (fun W hW => by
        have h := gfst_impl W ru n (some ⟨b3, off3, none⟩) c' ps (by omega) (hRP.ext hW)
        rw [hpl] at h
        exact h)
      have HPL : Hid (∀ W, Ext W1 W → Calls Tryz.prog 16 #[.int .i64 ru, .agg #[.int .i64 n, .slice (some ⟨b3, off3, none⟩) 3 c'], .int .i64 1] W fun e w' => ∃ a4 c4, e = .returned (.tuple #[.agg #[.int .i64 n, .slice a4 3 c4], .bool true]) ∧ PlF W w' ru n ps a4) := hide (fun W hW => by
        have h := plr_impl W ru n (some ⟨b3, off3, none⟩) c' ps (hRP.ext hW) h0 (by omega) (by omega) (by omega) (by omega)
        rw [hpl] at h
        exact h)
      have HSE : Hid (ValC 17 #[.int .i64 ru, .agg #[.int .i64 n, .slice (some ⟨b3, off3, none⟩) 3 c'], .agg #[.int .i64 n, .slice (some ⟨b3, off3, none⟩) 3 c']] W1 (.bool (decide (C = 0)))) := hide (fun W hW => by
        have h := set_impl W ru n (some ⟨b3, off3, none⟩) c' ps n (some ⟨b3, off3, none⟩) c' ps (hRP.ext hW) (hRP.ext hW)
        rw [hC.set] at h
        rw [hpl] at h
        exact h)
      have HFP : Hid (ValC 18 #[.agg #[.int .i64 n, .slice (some ⟨b3, off3, none⟩) 3 c']] W1 (.string ⟨(Lib.join ((ps.map wdS).map (·.data.toList)) [32]).toArray⟩)) := hide (fun W hW => by
        have h := fpr_impl W n (some ⟨b3, off3, none⟩) c' ps (hRP.ext hW) h0 (by omega) h6
        rw [hpl] at h
        exact h)
      have HFX : Hid (C = 0 → ∀ W W' a4 c4, PlF W W' ru n ps a4 → ValC 18 #[.agg #[.int .i64 n, .slice a4 3 c4]] W' (.string ⟨(Lib.join ((ps.map wdS).map (·.data.toList)) [32]).toArray⟩)) := hide (fun hc W W' a4 c4 ⟨us, g1, g2, g3, g4, g5⟩ W2 hW2 => by
        have e := g4 (hC.none hc)
        subst e
        have h := fpr_impl W2 n a4 c4 _ (g1.ext hW2) h0 (by omega) h6
        rw [hpl] at h
        exact h)
      have HPE : Hid (∀ W W' a4, PlF W W' ru n ps a4 → Ext W W') := hide (fun W W' a4 ⟨us, g1, g2, g3, g4, g5⟩ => g5)
      have hbl := rk_len hG.rk
      have hrl := reaO_len ru n ps k
      have hrl1 := hG.len
      have HLOW := hide hG.low
      have hasY := hG.hasY
      have hasW := hG.hasW
      have hcle := hC.le
      have hfst := hC.fst
      have HTWO := hide hC.two
      have HCT := hide hct
      generalize (⟨(Lib.join ((ps.map wdS).map (·.data.toList)) [32]).toArray⟩ : ByteArray) = T at HFP HFX
      generalize reaO ru n ps k = Lr at HREA hrl hrl1 HLOW hasY hasW
      generalize hbr : bstO ru n ps k = r at HBST HWR HWQ HGB hbl
      generalize gfstO ru n ps = fg at HFG hfst
      clear hG hC hRx hRP hx h0 h6 hxk hbr HS hct
      go_wp2_with fail
      refine (HREA.out _ hE4).mono ?_
      rintro e w5 ⟨ar, cr, rfl, hRr, hw5⟩
      have hE5 := hE4.trans hw5
      have hZ5 := hw5
      replace q0 := hw5.keep q0
      replace q1 := hw5.keep q1
      clear hE4 HREA hw5
      go_wp2_with fail
      refine (HBST.out _ hE5).mono ?_
      rintro e w6 ⟨ar2, cr2, rfl, hRb, hcb, hw6⟩
      have hE6 := hE5.trans hw6
      have hZ6 := hZ5.trans hw6
      replace q0 := hw6.keep q0
      replace q1 := hw6.keep q1
      replace hRr := hRr.ext hw6
      clear hE5 hZ5 HBST hw6
      go_wp2_with fail
      refine (HWR.out _ ar2 cr2 hE6 hRb hcb).mono ?_
      rintro e w7 ⟨a3, c3, rfl, hRq, hw7⟩
      have m0 := new0 w7 (.int .i64 n) [.slice a3 3 c3] 26
      have m1 := new1 w7 (.int .i64 n) (.slice a3 3 c3) [] 26
      have hEm := Ext.new w7 (.cells #[.int .i64 n, .slice a3 3 c3] 26)
      have hx7 := hw7.trans hEm
      have hE7 := hE6.trans hx7
      have hZ7 := hZ6.trans hx7
      replace q0 := hx7.keep q0
      replace q1 := hx7.keep q1
      replace hRr := hRr.ext hx7
      replace hRb := hRb.ext hx7
      replace hRq := hRq.ext hEm
      clear hE6 hZ6 HWR hw7 hx7 hEm
      have t1 : ((Lr.length : Int) == 0) = false := by rw [beq_eq_false_iff_ne]; omega
      go_wp2_with fail
      generalize w7.alloc (.cells #[.int .i64 n, .slice a3 3 c3] 26) = w8 at q0 q1 m0 m1 hRr hRb hRq hE7 hZ7 ⊢
      clear t1
      refine (HWQ.out _ a3 c3 hRq).mono ?_
      rintro e w9 ⟨rfl, hw9⟩
      have hE9 := hE7.trans hw9
      have hZ9 := hZ7.trans hw9
      replace q0 := hw9.keep q0
      replace q1 := hw9.keep q1
      replace hRr := hRr.ext hw9
      replace hRb := hRb.ext hw9
      clear hE7 hZ7 HWQ hw9 hRq m0 m1
      obtain ⟨wb, hwb⟩ : ∃ wb : World, wb = w9 := ⟨_, rfl⟩
      subst hwb
      have Q0 := q0
      have Q1 := q1
      clear q0 q1
      go_wp2_with fail
      go_loopw [15, 90] (fun _ i wr => ∃ m : Nat, m ≤ Lr.length ∧ i = .int .i64 m ∧ Ext wb wr) (fun _ i _ => Lr.length - (intOf i).toNat)
      case atStart => exact ⟨0, Nat.zero_le _, rfl, Ext.refl _⟩
      case round =>
        obtain ⟨m, hm, rfl, hwr⟩ := hrel
        by_cases hml : m < Lr.length
        · obtain ⟨z, hz⟩ := at_of_lt hml
          obtain ⟨bz, oz, ez, dz⟩ := (hRr.ext hwr).at_ hz
          subst ez
          have hpz := HPF.out z y
          rw [HLOW.out z (List.mem_of_getElem? hz)] at hpz
          have HPZ := hide hpz
          have hm1 : m + 1 ≤ Lr.length := by omega
          clear hz hpz
          go_wp2_with fail
          refine (HPZ.out.at _ (hZ9.trans hwr)).mono ?_
          rintro e w10 ⟨rfl, hw10⟩
          go_wp2
          exact ⟨⟨m + 1, hm1, by go_num, hwr.trans hw10⟩, by simp [intOf]; omega⟩
        · have hE10 := hE9.trans hwr
          have hZ10 := hZ9.trans hwr
          replace Q0 := hwr.keep Q0
          replace Q1 := hwr.keep Q1
          replace hRr := hRr.ext hwr
          replace hRb := hRb.ext hwr
          clear hE9 hZ9 HLOW hwr
          go_wp2_with fail
          refine (HGB.out _ hE10).mono ?_
          rintro e w11 ⟨vg, rfl, hgb, hw11⟩
          have hE11 := hE10.trans hw11
          have hZ11 := hZ10.trans hw11
          replace Q0 := hw11.keep Q0
          replace Q1 := hw11.keep Q1
          replace hRr := hRr.ext hw11
          replace hRb := hRb.ext hw11
          have HP2 := hide (HPF.out y wn)
          have HHY : Hid (∀ W, Ext w11 W → Calls Tryz.prog 13 #[.slice ar Lr.length cr, .int .i64 y] W fun e w' => e = .returned (.bool true) ∧ Ext W w') := hide (fun W hW => by
            have h := has_law W ar _ cr Lr y rfl (hRr.ext hW) (by omega)
            rw [hasY] at h
            exact h)
          have HHW : Hid (∀ W, Ext w11 W → Calls Tryz.prog 13 #[.slice ar Lr.length cr, .int .i64 wn] W fun e w' => e = .returned (.bool true) ∧ Ext W w') := hide (fun W hW => by
            have h := has_law W ar _ cr Lr wn rfl (hRr.ext hW) (by omega)
            rw [hasW] at h
            exact h)
          clear hE10 hZ10 HGB HPF hw11 hasY hasW hRr
          generalize prefB x.1 y wn = G at hgb HP2 ⊢
          cases G
          · clear hgb hRb
            go_wp2_with fail
            refine (HWP.out.at _ hE11).mono ?_
            rintro e w12 ⟨rfl, hw12⟩
            replace Q0 := hw12.keep Q0
            replace Q1 := hw12.keep Q1
            go_wp2_with fail
            refine (HP2.out.at _ (hZ11.trans hw12)).mono ?_
            rintro e w13 ⟨rfl, hw13⟩
            replace Q0 := hw13.keep Q0
            replace Q1 := hw13.keep Q1
            have hx13 := hw12.trans hw13
            clear hw12 hw13
            go_wp2_with fail
            refine (HHY.out _ hx13).mono ?_
            rintro e w14 ⟨rfl, hw14⟩
            replace Q0 := hw14.keep Q0
            replace Q1 := hw14.keep Q1
            have hx14 := hx13.trans hw14
            clear hx13 hw14
            go_wp2_with fail
            refine (HWP.out.at _ (hE11.trans hx14)).mono ?_
            rintro e w15 ⟨rfl, hw15⟩
            replace Q0 := hw15.keep Q0
            replace Q1 := hw15.keep Q1
            have hx15 := hx14.trans hw15
            clear hx14 hw15
            go_wp2_with fail
            refine (HHW.out _ hx15).mono ?_
            rintro e w16 ⟨rfl, hw16⟩
            replace Q0 := hw16.keep Q0
            replace Q1 := hw16.keep Q1
            have hE16 := hE11.trans (hx15.trans hw16)
            clear hx15 hw16 HHY HHW HP2 hE11 hZ11
            go_wp2_with fail
            refine (HCG.out.at _ hE16).mono ?_
            rintro e w17 ⟨rfl, hw17⟩
            replace Q0 := hw17.keep Q0
            replace Q1 := hw17.keep Q1
            go_wp2_with fail
            refine (HFG.out.at _ (hE16.trans hw17)).mono ?_
            rintro e w18 ⟨rfl, hw18⟩
            replace Q0 := hw18.keep Q0
            replace Q1 := hw18.keep Q1
            have hE18 := hE16.trans (hw17.trans hw18)
            clear hE16 hw17 hw18 HCG HFG HWP
            go_wp2_with fail
            refine (HPL.out _ hE18).mono ?_
            rintro e w19 ⟨a4, c4, rfl, hpl4⟩
            have hw19 := HPE.out _ _ _ hpl4
            have s0 := new0 w19 (.int .i64 n) [.slice a4 3 c4] 26
            have s1 := new1 w19 (.int .i64 n) (.slice a4 3 c4) [] 26
            have hEn := Ext.new w19 (.cells #[.int .i64 n, .slice a4 3 c4] 26)
            replace Q0 := (hw19.trans hEn).keep Q0
            replace Q1 := (hw19.trans hEn).keep Q1
            have hE20 := (hE18.trans hw19).trans hEn
            have HFX2 := hide (fun hc : C = 0 => HFX.out hc _ _ a4 c4 hpl4)
            clear hE18 HPL HPE HFX hpl4 hw19
            by_cases hC0 : C = 0
            · have hfg : fg = -1 := by
                rcases hfst with ⟨_, h⟩ | ⟨h, _⟩
                · exact h
                · omega
              have HX2 := hide (fun W (hW : Ext (w19.alloc (.cells #[.int .i64 n, .slice a4 3 c4] 26)) W) => HFX2.out hC0 W (hEn.trans hW))
              subst hC0
              subst hfg
              have HSE2 : Hid (∀ W, Ext W1 W → Calls Tryz.prog 17 #[.int .i64 ru, .agg #[.int .i64 n, .slice (some ⟨b3, off3, none⟩) 3 c'], .agg #[.int .i64 n, .slice (some ⟨b3, off3, none⟩) 3 c']] W fun e w' => e = .returned (.bool true) ∧ Ext W w') := hide (fun W hW => by
                have h := HSE.out W hW
                rw [decide_eq_true rfl] at h
                exact h)
              clear hfst HFX2 HSE HTWO hcle
              by_cases hn2 : n = 2
              · have t2 : ¬ (2 : Int) < (n : Int) := by omega
                clear hn2
                go_wp2_with fail
                generalize w19.alloc (.cells #[.int .i64 n, .slice a4 3 c4] 26) = w20 at Q0 Q1 s0 s1 hE20 HX2 ⊢
                clear hEn
                refine wp_region_X (by kernel_rfl) (by kernel_rfl) ?_
                repeat' (refine wpX_stepQ (fun K hK => ?_)
                         go_simp
                         try (rw [if_neg (by intro h; simp [undef] at h)])
                         try split
                         all_goals
                           first
                           | (refine hK _ ?_
                              clear hK K)
                           | (apply Exists.intro
                              refine ⟨fun wq hwq => ?_, hK _ ?_⟩
                              · have hcq := hwq.cellS
                                go_simp
                                first
                                | exact ⟨Ext.refl _, rfl⟩
                              clear hK K))
                refine wpX_stepQ (fun K hK => ?_)
                go_simp
                apply Exists.intro
                refine ⟨fun wq hwq => ?_, hK _ ?_⟩
                · have hcq := hwq.cellS
                  go_simp
                  exact ⟨Ext.refl _, HSE2.out _ (hE20.trans hwq)⟩
                clear hK K
                repeat' (refine wpX_stepQ (fun K hK => ?_)
                         go_simp
                         try (rw [if_neg (by intro h; simp [undef] at h)])
                         try split
                         all_goals
                           first
                           | (refine hK _ ?_
                              clear hK K)
                           | (apply Exists.intro
                              refine ⟨fun wq hwq => ?_, hK _ ?_⟩
                              · have hcq := hwq.cellS
                                go_simp
                                first
                                | exact ⟨Ext.refl _, rfl⟩
                              clear hK K))
                refine wpX_stepQ (fun K hK => ?_)
                go_simp
                apply Exists.intro
                refine ⟨fun wq hwq => ?_, hK _ ?_⟩
                · have hcq := hwq.cellS
                  go_simp
                  exact ⟨Ext.refl _, HX2.out _ hwq⟩
                clear hK K
                repeat' (refine wpX_stepQ (fun K hK => ?_)
                         go_simp
                         try (rw [if_neg (by intro h; simp [undef] at h)])
                         try split
                         all_goals
                           first
                           | (refine hK _ ?_
                              clear hK K)
                           | (apply Exists.intro
                              refine ⟨fun wq hwq => ?_, hK _ ?_⟩
                              · have hcq := hwq.cellS
                                go_simp
                                first
                                | exact ⟨Ext.refl _, rfl⟩
                              clear hK K))
                refine wpX_stepQ (fun K hK => ?_)
                go_simp
                apply Exists.intro
                refine ⟨fun wq hwq => ?_, hK _ ?_⟩
                · have hcq := hwq.cellS
                  go_simp
                  exact ⟨Ext.refl _, HFP.out.at _ (hE20.trans hwq)⟩
                clear hK K
                repeat' (refine wpX_stepQ (fun K hK => ?_)
                         go_simp
                         try (rw [if_neg (by intro h; simp [undef] at h)])
                         try split
                         all_goals
                           first
                           | (refine hK _ ?_
                              clear hK K)
                           | (apply Exists.intro
                              refine ⟨fun wq hwq => ?_, hK _ ?_⟩
                              · have hcq := hwq.cellS
                                go_simp
                                first
                                | exact ⟨Ext.refl _, rfl⟩
                              clear hK K))
                refine wpX_nil (fun wz9 hwz9 => ?_)
                go_wp2
                go_ret
                exact ⟨rfl, hw.trans (hE20.trans hwz9)⟩
              · have t2 : (2 : Int) < (n : Int) := by omega
                clear hn2
                go_wp2_with fail
                generalize w19.alloc (.cells #[.int .i64 n, .slice a4 3 c4] 26) = w20 at Q0 Q1 s0 s1 hE20 HX2 ⊢
                clear hEn
                refine wp_region_X (by kernel_rfl) (by kernel_rfl) ?_
                repeat' (refine wpX_stepQ (fun K hK => ?_)
                         go_simp
                         try (rw [if_neg (by intro h; simp [undef] at h)])
                         try split
                         all_goals
                           first
                           | (refine hK _ ?_
                              clear hK K)
                           | (apply Exists.intro
                              refine ⟨fun wq hwq => ?_, hK _ ?_⟩
                              · have hcq := hwq.cellS
                                go_simp
                                first
                                | exact ⟨Ext.refl _, rfl⟩
                              clear hK K))
                refine wpX_stepQ (fun K hK => ?_)
                go_simp
                apply Exists.intro
                refine ⟨fun wq hwq => ?_, hK _ ?_⟩
                · have hcq := hwq.cellS
                  go_simp
                  exact ⟨Ext.refl _, HSE2.out _ (hE20.trans hwq)⟩
                clear hK K
                repeat' (refine wpX_stepQ (fun K hK => ?_)
                         go_simp
                         try (rw [if_neg (by intro h; simp [undef] at h)])
                         try split
                         all_goals
                           first
                           | (refine hK _ ?_
                              clear hK K)
                           | (apply Exists.intro
                              refine ⟨fun wq hwq => ?_, hK _ ?_⟩
                              · have hcq := hwq.cellS
                                go_simp
                                first
                                | exact ⟨Ext.refl _, rfl⟩
                              clear hK K))
                refine wpX_stepQ (fun K hK => ?_)
                go_simp
                apply Exists.intro
                refine ⟨fun wq hwq => ?_, hK _ ?_⟩
                · have hcq := hwq.cellS
                  go_simp
                  exact ⟨Ext.refl _, HX2.out _ hwq⟩
                clear hK K
                repeat' (refine wpX_stepQ (fun K hK => ?_)
                         go_simp
                         try (rw [if_neg (by intro h; simp [undef] at h)])
                         try split
                         all_goals
                           first
                           | (refine hK _ ?_
                              clear hK K)
                           | (apply Exists.intro
                              refine ⟨fun wq hwq => ?_, hK _ ?_⟩
                              · have hcq := hwq.cellS
                                go_simp
                                first
                                | exact ⟨Ext.refl _, rfl⟩
                              clear hK K))
                refine wpX_stepQ (fun K hK => ?_)
                go_simp
                apply Exists.intro
                refine ⟨fun wq hwq => ?_, hK _ ?_⟩
                · have hcq := hwq.cellS
                  go_simp
                  exact ⟨Ext.refl _, HFP.out.at _ (hE20.trans hwq)⟩
                clear hK K
                repeat' (refine wpX_stepQ (fun K hK => ?_)
                         go_simp
                         try (rw [if_neg (by intro h; simp [undef] at h)])
                         try split
                         all_goals
                           first
                           | (refine hK _ ?_
                              clear hK K)
                           | (apply Exists.intro
                              refine ⟨fun wq hwq => ?_, hK _ ?_⟩
                              · have hcq := hwq.cellS
                                go_simp
                                first
                                | exact ⟨Ext.refl _, rfl⟩
                              clear hK K))
                refine wpX_nil (fun wz9 hwz9 => ?_)
                go_wp2
                go_ret
                exact ⟨rfl, hw.trans (hE20.trans hwz9)⟩
            · obtain ⟨f, hf⟩ : ∃ f : Nat, fg = f := by
                rcases hfst with ⟨h, _⟩ | ⟨_, f, h⟩
                · exact absurd h hC0
                · exact ⟨f, h⟩
              have t2 : (2 : Int) < (n : Int) := by
                by_cases hn2 : n = 2
                · exact absurd (HTWO.out hn2) hC0
                · omega
              subst hf
              have t3 : ((C : Int) == 0) = false := by rw [beq_eq_false_iff_ne]; omega
              have t4 : ((f : Int) == -1) = false := by rw [beq_eq_false_iff_ne]; omega
              have t5 : (0 : Int) < (C : Int) := by omega
              have t6 : 0 < C := by omega
              have HSE2 : Hid (∀ W, Ext W1 W → Calls Tryz.prog 17 #[.int .i64 ru, .agg #[.int .i64 n, .slice (some ⟨b3, off3, none⟩) 3 c'], .agg #[.int .i64 n, .slice (some ⟨b3, off3, none⟩) 3 c']] W fun e w' => e = .returned (.bool false) ∧ Ext W w') := hide (fun W hW => by
                have h := HSE.out W hW
                rw [decide_eq_false hC0] at h
                exact h)
              clear hfst HFX2 HSE HTWO hcle HFP
              go_wp2_with fail
              generalize w19.alloc (.cells #[.int .i64 n, .slice a4 3 c4] 26) = w20 at Q0 Q1 s0 s1 hE20 ⊢
              clear hEn
              refine wp_region_X (by kernel_rfl) (by kernel_rfl) ?_
              repeat' (refine wpX_stepQ (fun K hK => ?_)
                       go_simp
                       try (rw [if_neg (by intro h; simp [undef] at h)])
                       try split
                       all_goals
                         first
                         | (refine hK _ ?_
                            clear hK K)
                         | (apply Exists.intro
                            refine ⟨fun wq hwq => ?_, hK _ ?_⟩
                            · have hcq := hwq.cellS
                              go_simp
                              first
                              | exact ⟨Ext.refl _, rfl⟩
                            clear hK K))
              refine wpX_stepQ (fun K hK => ?_)
              go_simp
              apply Exists.intro
              refine ⟨fun wq hwq => ?_, hK _ ?_⟩
              · have hcq := hwq.cellS
                go_simp
                exact ⟨Ext.refl _, HSE2.out _ (hE20.trans hwq)⟩
              clear hK K
              repeat' (refine wpX_stepQ (fun K hK => ?_)
                       go_simp
                       try (rw [if_neg (by intro h; simp [undef] at h)])
                       try split
                       all_goals
                         first
                         | (refine hK _ ?_
                            clear hK K)
                         | (apply Exists.intro
                            refine ⟨fun wq hwq => ?_, hK _ ?_⟩
                            · have hcq := hwq.cellS
                              go_simp
                              first
                              | exact ⟨Ext.refl _, rfl⟩
                            clear hK K))
              refine wpX_nil (fun wz9 hwz9 => ?_)
              go_wp2
              go_ret
              exact ⟨rfl, hw.trans (hE20.trans hwz9)⟩
          · obtain ⟨ag, cg, rfl, hRg⟩ := hgb rfl
            have HSAM : Hid (∀ W, Ext w11 W → Calls Tryz.prog 12 #[.slice ag r.length cg, .slice ar2 r.length cr2] W fun e w' => e = .returned (.bool true) ∧ Ext W w') := hide (fun W hW => same_law W ag ar2 _ _ cg cr2 r rfl rfl (hRg.ext hW) (hRb.ext hW) (by omega))
            clear hgb hRb hRg
            go_wp2_with fail
            refine (HWP.out.at _ hE11).mono ?_
            rintro e w12 ⟨rfl, hw12⟩
            replace Q0 := hw12.keep Q0
            replace Q1 := hw12.keep Q1
            go_wp2_with fail
            refine (HP2.out.at _ (hZ11.trans hw12)).mono ?_
            rintro e w13 ⟨rfl, hw13⟩
            replace Q0 := hw13.keep Q0
            replace Q1 := hw13.keep Q1
            have hx13 := hw12.trans hw13
            clear hw12 hw13
            go_wp2_with fail
            refine (HSAM.out _ hx13).mono ?_
            rintro e w13b ⟨rfl, hw13b⟩
            replace Q0 := hw13b.keep Q0
            replace Q1 := hw13b.keep Q1
            replace hx13 := hx13.trans hw13b
            clear hw13b HSAM
            go_wp2_with fail
            refine (HHY.out _ hx13).mono ?_
            rintro e w14 ⟨rfl, hw14⟩
            replace Q0 := hw14.keep Q0
            replace Q1 := hw14.keep Q1
            have hx14 := hx13.trans hw14
            clear hx13 hw14
            go_wp2_with fail
            refine (HWP.out.at _ (hE11.trans hx14)).mono ?_
            rintro e w15 ⟨rfl, hw15⟩
            replace Q0 := hw15.keep Q0
            replace Q1 := hw15.keep Q1
            have hx15 := hx14.trans hw15
            clear hx14 hw15
            go_wp2_with fail
            refine (HHW.out _ hx15).mono ?_
            rintro e w16 ⟨rfl, hw16⟩
            replace Q0 := hw16.keep Q0
            replace Q1 := hw16.keep Q1
            have hE16 := hE11.trans (hx15.trans hw16)
            clear hx15 hw16 HHY HHW HP2 hE11 hZ11
            go_wp2_with fail
            refine (HCG.out.at _ hE16).mono ?_
            rintro e w17 ⟨rfl, hw17⟩
            replace Q0 := hw17.keep Q0
            replace Q1 := hw17.keep Q1
            go_wp2_with fail
            refine (HFG.out.at _ (hE16.trans hw17)).mono ?_
            rintro e w18 ⟨rfl, hw18⟩
            replace Q0 := hw18.keep Q0
            replace Q1 := hw18.keep Q1
            have hE18 := hE16.trans (hw17.trans hw18)
            clear hE16 hw17 hw18 HCG HFG HWP
            go_wp2_with fail
            refine (HPL.out _ hE18).mono ?_
            rintro e w19 ⟨a4, c4, rfl, hpl4⟩
            have hw19 := HPE.out _ _ _ hpl4
            have s0 := new0 w19 (.int .i64 n) [.slice a4 3 c4] 26
            have s1 := new1 w19 (.int .i64 n) (.slice a4 3 c4) [] 26
            have hEn := Ext.new w19 (.cells #[.int .i64 n, .slice a4 3 c4] 26)
            replace Q0 := (hw19.trans hEn).keep Q0
            replace Q1 := (hw19.trans hEn).keep Q1
            have hE20 := (hE18.trans hw19).trans hEn
            have HFX2 := hide (fun hc : C = 0 => HFX.out hc _ _ a4 c4 hpl4)
            clear hE18 HPL HPE HFX hpl4 hw19
            by_cases hC0 : C = 0
            · have hfg : fg = -1 := by
                rcases hfst with ⟨_, h⟩ | ⟨h, _⟩
                · exact h
                · omega
              have HX2 := hide (fun W (hW : Ext (w19.alloc (.cells #[.int .i64 n, .slice a4 3 c4] 26)) W) => HFX2.out hC0 W (hEn.trans hW))
              subst hC0
              subst hfg
              have HSE2 : Hid (∀ W, Ext W1 W → Calls Tryz.prog 17 #[.int .i64 ru, .agg #[.int .i64 n, .slice (some ⟨b3, off3, none⟩) 3 c'], .agg #[.int .i64 n, .slice (some ⟨b3, off3, none⟩) 3 c']] W fun e w' => e = .returned (.bool true) ∧ Ext W w') := hide (fun W hW => by
                have h := HSE.out W hW
                rw [decide_eq_true rfl] at h
                exact h)
              clear hfst HFX2 HSE HTWO hcle
              by_cases hn2 : n = 2
              · have t2 : ¬ (2 : Int) < (n : Int) := by omega
                clear hn2
                go_wp2_with fail
                generalize w19.alloc (.cells #[.int .i64 n, .slice a4 3 c4] 26) = w20 at Q0 Q1 s0 s1 hE20 HX2 ⊢
                clear hEn
                refine wp_region_X (by kernel_rfl) (by kernel_rfl) ?_
                repeat' (refine wpX_stepQ (fun K hK => ?_)
                         go_simp
                         try (rw [if_neg (by intro h; simp [undef] at h)])
                         try split
                         all_goals
                           first
                           | (refine hK _ ?_
                              clear hK K)
                           | (apply Exists.intro
                              refine ⟨fun wq hwq => ?_, hK _ ?_⟩
                              · have hcq := hwq.cellS
                                go_simp
                                first
                                | exact ⟨Ext.refl _, rfl⟩
                              clear hK K))
                refine wpX_stepQ (fun K hK => ?_)
                go_simp
                apply Exists.intro
                refine ⟨fun wq hwq => ?_, hK _ ?_⟩
                · have hcq := hwq.cellS
                  go_simp
                  exact ⟨Ext.refl _, HSE2.out _ (hE20.trans hwq)⟩
                clear hK K
                repeat' (refine wpX_stepQ (fun K hK => ?_)
                         go_simp
                         try (rw [if_neg (by intro h; simp [undef] at h)])
                         try split
                         all_goals
                           first
                           | (refine hK _ ?_
                              clear hK K)
                           | (apply Exists.intro
                              refine ⟨fun wq hwq => ?_, hK _ ?_⟩
                              · have hcq := hwq.cellS
                                go_simp
                                first
                                | exact ⟨Ext.refl _, rfl⟩
                              clear hK K))
                refine wpX_stepQ (fun K hK => ?_)
                go_simp
                apply Exists.intro
                refine ⟨fun wq hwq => ?_, hK _ ?_⟩
                · have hcq := hwq.cellS
                  go_simp
                  exact ⟨Ext.refl _, HX2.out _ hwq⟩
                clear hK K
                repeat' (refine wpX_stepQ (fun K hK => ?_)
                         go_simp
                         try (rw [if_neg (by intro h; simp [undef] at h)])
                         try split
                         all_goals
                           first
                           | (refine hK _ ?_
                              clear hK K)
                           | (apply Exists.intro
                              refine ⟨fun wq hwq => ?_, hK _ ?_⟩
                              · have hcq := hwq.cellS
                                go_simp
                                first
                                | exact ⟨Ext.refl _, rfl⟩
                              clear hK K))
                refine wpX_stepQ (fun K hK => ?_)
                go_simp
                apply Exists.intro
                refine ⟨fun wq hwq => ?_, hK _ ?_⟩
                · have hcq := hwq.cellS
                  go_simp
                  exact ⟨Ext.refl _, HFP.out.at _ (hE20.trans hwq)⟩
                clear hK K
                repeat' (refine wpX_stepQ (fun K hK => ?_)
                         go_simp
                         try (rw [if_neg (by intro h; simp [undef] at h)])
                         try split
                         all_goals
                           first
                           | (refine hK _ ?_
                              clear hK K)
                           | (apply Exists.intro
                              refine ⟨fun wq hwq => ?_, hK _ ?_⟩
                              · have hcq := hwq.cellS
                                go_simp
                                first
                                | exact ⟨Ext.refl _, rfl⟩
                              clear hK K))
                refine wpX_nil (fun wz9 hwz9 => ?_)
                go_wp2
                go_ret
                exact ⟨rfl, hw.trans (hE20.trans hwz9)⟩
              · have t2 : (2 : Int) < (n : Int) := by omega
                clear hn2
                go_wp2_with fail
                generalize w19.alloc (.cells #[.int .i64 n, .slice a4 3 c4] 26) = w20 at Q0 Q1 s0 s1 hE20 HX2 ⊢
                clear hEn
                refine wp_region_X (by kernel_rfl) (by kernel_rfl) ?_
                repeat' (refine wpX_stepQ (fun K hK => ?_)
                         go_simp
                         try (rw [if_neg (by intro h; simp [undef] at h)])
                         try split
                         all_goals
                           first
                           | (refine hK _ ?_
                              clear hK K)
                           | (apply Exists.intro
                              refine ⟨fun wq hwq => ?_, hK _ ?_⟩
                              · have hcq := hwq.cellS
                                go_simp
                                first
                                | exact ⟨Ext.refl _, rfl⟩
                              clear hK K))
                refine wpX_stepQ (fun K hK => ?_)
                go_simp
                apply Exists.intro
                refine ⟨fun wq hwq => ?_, hK _ ?_⟩
                · have hcq := hwq.cellS
                  go_simp
                  exact ⟨Ext.refl _, HSE2.out _ (hE20.trans hwq)⟩
                clear hK K
                repeat' (refine wpX_stepQ (fun K hK => ?_)
                         go_simp
                         try (rw [if_neg (by intro h; simp [undef] at h)])
                         try split
                         all_goals
                           first
                           | (refine hK _ ?_
                              clear hK K)
                           | (apply Exists.intro
                              refine ⟨fun wq hwq => ?_, hK _ ?_⟩
                              · have hcq := hwq.cellS
                                go_simp
                                first
                                | exact ⟨Ext.refl _, rfl⟩
                              clear hK K))
                refine wpX_stepQ (fun K hK => ?_)
                go_simp
                apply Exists.intro
                refine ⟨fun wq hwq => ?_, hK _ ?_⟩
                · have hcq := hwq.cellS
                  go_simp
                  exact ⟨Ext.refl _, HX2.out _ hwq⟩
                clear hK K
                repeat' (refine wpX_stepQ (fun K hK => ?_)
                         go_simp
                         try (rw [if_neg (by intro h; simp [undef] at h)])
                         try split
                         all_goals
                           first
                           | (refine hK _ ?_
                              clear hK K)
                           | (apply Exists.intro
                              refine ⟨fun wq hwq => ?_, hK _ ?_⟩
                              · have hcq := hwq.cellS
                                go_simp
                                first
                                | exact ⟨Ext.refl _, rfl⟩
                              clear hK K))
                refine wpX_stepQ (fun K hK => ?_)
                go_simp
                apply Exists.intro
                refine ⟨fun wq hwq => ?_, hK _ ?_⟩
                · have hcq := hwq.cellS
                  go_simp
                  exact ⟨Ext.refl _, HFP.out.at _ (hE20.trans hwq)⟩
                clear hK K
                repeat' (refine wpX_stepQ (fun K hK => ?_)
                         go_simp
                         try (rw [if_neg (by intro h; simp [undef] at h)])
                         try split
                         all_goals
                           first
                           | (refine hK _ ?_
                              clear hK K)
                           | (apply Exists.intro
                              refine ⟨fun wq hwq => ?_, hK _ ?_⟩
                              · have hcq := hwq.cellS
                                go_simp
                                first
                                | exact ⟨Ext.refl _, rfl⟩
                              clear hK K))
                refine wpX_nil (fun wz9 hwz9 => ?_)
                go_wp2
                go_ret
                exact ⟨rfl, hw.trans (hE20.trans hwz9)⟩
            · obtain ⟨f, hf⟩ : ∃ f : Nat, fg = f := by
                rcases hfst with ⟨h, _⟩ | ⟨_, f, h⟩
                · exact absurd h hC0
                · exact ⟨f, h⟩
              have t2 : (2 : Int) < (n : Int) := by
                by_cases hn2 : n = 2
                · exact absurd (HTWO.out hn2) hC0
                · omega
              subst hf
              have t3 : ((C : Int) == 0) = false := by rw [beq_eq_false_iff_ne]; omega
              have t4 : ((f : Int) == -1) = false := by rw [beq_eq_false_iff_ne]; omega
              have t5 : (0 : Int) < (C : Int) := by omega
              have t6 : 0 < C := by omega
              have HSE2 : Hid (∀ W, Ext W1 W → Calls Tryz.prog 17 #[.int .i64 ru, .agg #[.int .i64 n, .slice (some ⟨b3, off3, none⟩) 3 c'], .agg #[.int .i64 n, .slice (some ⟨b3, off3, none⟩) 3 c']] W fun e w' => e = .returned (.bool false) ∧ Ext W w') := hide (fun W hW => by
                have h := HSE.out W hW
                rw [decide_eq_false hC0] at h
                exact h)
              clear hfst HFX2 HSE HTWO hcle HFP
              go_wp2_with fail
              generalize w19.alloc (.cells #[.int .i64 n, .slice a4 3 c4] 26) = w20 at Q0 Q1 s0 s1 hE20 ⊢
              clear hEn
              refine wp_region_X (by kernel_rfl) (by kernel_rfl) ?_
              repeat' (refine wpX_stepQ (fun K hK => ?_)
                       go_simp
                       try (rw [if_neg (by intro h; simp [undef] at h)])
                       try split
                       all_goals
                         first
                         | (refine hK _ ?_
                            clear hK K)
                         | (apply Exists.intro
                            refine ⟨fun wq hwq => ?_, hK _ ?_⟩
                            · have hcq := hwq.cellS
                              go_simp
                              first
                              | exact ⟨Ext.refl _, rfl⟩
                            clear hK K))
              refine wpX_stepQ (fun K hK => ?_)
              go_simp
              apply Exists.intro
              refine ⟨fun wq hwq => ?_, hK _ ?_⟩
              · have hcq := hwq.cellS
                go_simp
                exact ⟨Ext.refl _, HSE2.out _ (hE20.trans hwq)⟩
              clear hK K
              repeat' (refine wpX_stepQ (fun K hK => ?_)
                       go_simp
                       try (rw [if_neg (by intro h; simp [undef] at h)])
                       try split
                       all_goals
                         first
                         | (refine hK _ ?_
                            clear hK K)
                         | (apply Exists.intro
                            refine ⟨fun wq hwq => ?_, hK _ ?_⟩
                            · have hcq := hwq.cellS
                              go_simp
                              first
                              | exact ⟨Ext.refl _, rfl⟩
                            clear hK K))
              refine wpX_nil (fun wz9 hwz9 => ?_)
              go_wp2
              go_ret
              exact ⟨rfl, hw.trans (hE20.trans hwz9)⟩
    · have h3' : ¬ (3 : Int) < (vs.length : Int) := by omega
      have hv3 : vs.length ≤ 3 := by omega
      have q0 := new0 w2 (.int .i64 n) [.slice (some ⟨b3, off3, none⟩) vs.length c'] 26
      have q1 := new1 w2 (.int .i64 n) (.slice (some ⟨b3, off3, none⟩) vs.length c') [] 26
      go_wp2_with fail
      clear q0 q1
      have hRP := hRV
      have h6 := v6
      obtain ⟨L, hL⟩ : ∃ L : Nat, L = vs.length := ⟨_, rfl⟩
      rw [← hL] at v1 hv3 ⊢
      have hpl := hL.symm
      clear h3 h3' hRV v5 v6 hcap hL
      have q0 := new0 w2 (.int .i64 n) [.slice (some ⟨b3, off3, none⟩) L c'] 26
      have q1 := new1 w2 (.int .i64 n) (.slice (some ⟨b3, off3, none⟩) L c') [] 26
      have hE := Ext.new w2 (.cells #[.int .i64 n, .slice (some ⟨b3, off3, none⟩) L c'] 26)
      have hw := hw0.trans hE
      replace hRP := hRP.ext hE
      generalize w2.alloc (.cells #[.int .i64 n, .slice (some ⟨b3, off3, none⟩) L c'] 26) = W1 at q0 q1 hw hRP ⊢
      clear hE hw0
      have HS := hide (prof_small h0)
      have hlt5 := (prof_small h0).1
      refine (HNUM.out _ 60 (by omega) hw).mono ?_
      rintro e w3 ⟨x3, rfl, _, hw3⟩
      obtain ⟨ru, hru, r1, r2⟩ : ∃ ru : Nat, 1 + (x3 : Int) % 13 = ru ∧ 1 ≤ ru ∧ ru ≤ 13 := ⟨(1 + (x3 : Int) % 13).toNat, by omega, by omega, by omega⟩
      replace q0 := hw3.keep q0
      replace q1 := hw3.keep q1
      go_wp2_with fail
      clear hru
      refine wp_region_O [0,2,3,4,1,5,6] (by kernel_rfl) rfl (by kernel_rfl) ?_
      repeat' (refine wpO_stepQ rfl (fun K hK => ?_)
               go_simp
               try (rw [if_neg (by intro h; simp [undef] at h)])
               try split
               all_goals
                 first
                 | (refine hK _ ?_
                    clear hK K)
                 | (apply Exists.intro
                    refine ⟨fun wq hwq => ?_, hK _ ?_⟩
                    · have hcq := hwq.cellS
                      go_simp
                      first
                      | exact ⟨Ext.refl _, rfl⟩
                    clear hK K))
      refine wpO_stepS rfl (by kernel_rfl) (fun K hK wq hwq => ?_)
      go_simp
      refine (HNUM.out _ 62 (by omega) (hw.trans (hw3.trans hwq))).mono ?_
      rintro e w4 ⟨x4, rfl, _, hw4⟩
      refine ⟨hw4, hK _ _ ?_⟩
      clear hK K
      have hE4 := hw3.trans (hwq.trans hw4)
      replace q0 := (hwq.trans hw4).keep q0
      replace q1 := (hwq.trans hw4).keep q1
      have hLp : 0 < L := by omega
      have hLn : ¬ L = 0 := by omega
      have hL0 : ((L : Int) == 0) = false := by rw [beq_eq_false_iff_ne]; omega
      have hq : (x4 : Int) % (L : Int) = ((x4 % L : Nat) : Int) := (Int.natCast_emod x4 L).symm
      have hkl := Nat.mod_lt x4 hLp
      generalize x4 % L = k at hq hkl
      clear hwq hw4 hw3 HNUM
      repeat' (refine wpO_stepQ rfl (fun K hK => ?_)
               go_simp
               try (rw [if_neg (by intro h; simp [undef] at h)])
               try split
               all_goals
                 first
                 | (refine hK _ ?_
                    clear hK K)
                 | (apply Exists.intro
                    refine ⟨fun wq hwq => ?_, hK _ ?_⟩
                    · have hcq := hwq.cellS
                      go_simp
                      first
                      | exact ⟨Ext.refl _, rfl⟩
                    clear hK K))
      refine wpO_nil (fun wz hwz => ?_)
      rw [Int.tmod_eq_emod_of_nonneg (show (0 : Int) ≤ (x4 : Int) by omega), hq]
      clear hq
      replace hE4 := hE4.trans hwz
      replace q0 := hwz.keep q0
      replace q1 := hwz.keep q1
      clear hwz
      obtain ⟨x, hx⟩ := at_of_lt (xs := vs) (k := k) (by omega)
      obtain ⟨b4, off4, at', ct, e9, c0, _, hct, hRx⟩ := (hRP.ext hE4).at_ hx
      injection e9 with e9
      injection e9 with e9 e10
      subst e9
      subst e10
      have hxk := (HS.out.2 x (List.mem_of_getElem? hx)).1
      have hxl := (rk_len hxk).2
      obtain ⟨y, wn, hG⟩ := gns_f (rule := ru) h0 (by omega) (by omega) (by omega) hx
      obtain ⟨C, hC⟩ := gns_c (rule := ru) h0 (by omega) (by omega) (by omega)
      have HREA : Hid (∀ W, Ext W1 W → Calls Tryz.prog 6 #[.int .i64 ru, .agg #[.int .i64 n, .slice (some ⟨b3, off3, none⟩) L c'], .int .i64 k] W fun e w' => ∃ ar cr, e = .returned (.slice ar (reaO ru n vs k).length cr) ∧ RdI w' ar (reaO ru n vs k) ∧ Ext W w') := hide (fun W hW => by
        have h := rea_impl W ru n (some ⟨b3, off3, none⟩) c' vs k (hRP.ext hW)
        rw [hpl] at h
        exact h.mono fun e w' ⟨v, h1, h2, h3⟩ => by
          obtain ⟨ar, cr, hv, _, _, hRr, _⟩ := h2.val
          exact ⟨ar, cr, by rw [h1, hv], hRr, h3⟩)
      have HBST : Hid (∀ W, Ext W1 W → Calls Tryz.prog 7 #[.int .i64 ru, .agg #[.int .i64 n, .slice (some ⟨b3, off3, none⟩) L c'], .int .i64 k] W fun e w' => ∃ ar cr, e = .returned (.tuple #[.slice ar (bstO ru n vs k).length cr, .bool true]) ∧ RdI w' ar (bstO ru n vs k) ∧ (bstO ru n vs k).length ≤ cr ∧ Ext W w') := hide (fun W hW => by
        have h := bst_impl W ru n (some ⟨b3, off3, none⟩) c' vs k (hRP.ext hW)
        rw [hG.gn] at h
        rw [hpl] at h
        exact h.mono fun e w' ⟨v, h1, h2, h3⟩ => by
          obtain ⟨ar, cr, hv, hcr, _, hRr, _⟩ := h2.val
          exact ⟨ar, cr, by rw [h1, hv], hRr, hcr, h3⟩)
      have HWR : Hid (∀ W ar cr, Ext W1 W → RdI W ar (bstO ru n vs k) → (bstO ru n vs k).length ≤ cr → Calls Tryz.prog 8 #[.agg #[.int .i64 n, .slice (some ⟨b3, off3, none⟩) L c'], .int .i64 k, .slice ar (bstO ru n vs k).length cr] W fun e w' => ∃ a3 c3, e = .returned (.tuple #[.agg #[.int .i64 n, .slice a3 L c3], .bool true]) ∧ RdV w' a3 (vs.set k (bstO ru n vs k, x.2)) ∧ Ext W w') := hide (fun W ar cr hW hRr hcr => by
        have h := withR_impl W n (some ⟨b3, off3, none⟩) ar c' cr k vs (bstO ru n vs k) x hx (hRP.ext hW) hRr h0 hG.rk hcr
        rw [hpl] at h
        exact h)
      have HWQ : Hid (∀ W a3 c3, RdV W a3 (vs.set k (bstO ru n vs k, x.2)) → Calls Tryz.prog 9 #[.int .i64 ru, .agg #[.int .i64 n, .slice a3 L c3]] W fun e w' => e = .returned (.int .i64 y) ∧ Ext W w') := hide (fun W a3 c3 h3 => by
        have h := winb_impl W ru n a3 c3 _ h3
        rw [List.length_set, hG.win] at h
        rw [hpl] at h
        exact h)
      have HWP : Hid (ValC 9 #[.int .i64 ru, .agg #[.int .i64 n, .slice (some ⟨b3, off3, none⟩) L c']] W1 (.int .i64 wn)) := hide (fun W hW => by
        have h := winb_impl W ru n (some ⟨b3, off3, none⟩) c' vs (hRP.ext hW)
        rw [hG.wnE] at h
        rw [hpl] at h
        exact h)
      have HPF : Hid (∀ z u : Int, ValC 10 #[.slice at' x.1.length ct, .int .i64 z, .int .i64 u] wz (.bool (prefB x.1 z u))) := hide (fun z u W hW => pref_impl W at' ct x.1 z u (hRx.ext hW) (by omega))
      have HGB : Hid (∀ W, Ext W1 W → Calls Tryz.prog 11 #[.int .i64 ru, .agg #[.int .i64 n, .slice (some ⟨b3, off3, none⟩) L c'], .int .i64 k] W fun e w' => ∃ v, e = .returned (.tuple #[v, .bool (prefB x.1 y wn)]) ∧ GbR w' (prefB x.1 y wn) (bstO ru n vs k) v ∧ Ext W w') := hide (fun W hW => by
        have h := gbr_impl W ru n (some ⟨b3, off3, none⟩) c' vs k (hRP.ext hW)
        rw [hG.gain] at h
        rw [hpl] at h
        exact h)
      have HCG : Hid (ValC 14 #[.int .i64 ru, .agg #[.int .i64 n, .slice (some ⟨b3, off3, none⟩) L c']] W1 (.int .i64 C)) := hide (fun W hW => by
        have h := gcnt_impl W ru n (some ⟨b3, off3, none⟩) c' vs (by omega) (hRP.ext hW)
        rw [hC.cnt] at h
        rw [hpl] at h
        exact h)
      have HFG : Hid (ValC 15 #[.int .i64 ru, .agg #[.int .i64 n, .slice (some ⟨b3, off3, none⟩) L c']] W1 (.int .i64 (gfstO ru n vs))) := hide (fun W hW => by
        have h := gfst_impl W ru n (some ⟨b3, off3, none⟩) c' vs (by omega) (hRP.ext hW)
        rw [hpl] at h
        exact h)
      have HPL : Hid (∀ W, Ext W1 W → Calls Tryz.prog 16 #[.int .i64 ru, .agg #[.int .i64 n, .slice (some ⟨b3, off3, none⟩) L c'], .int .i64 1] W fun e w' => ∃ a4 c4, e = .returned (.tuple #[.agg #[.int .i64 n, .slice a4 L c4], .bool true]) ∧ PlF W w' ru n vs a4) := hide (fun W hW => by
        have h := plr_impl W ru n (some ⟨b3, off3, none⟩) c' vs (hRP.ext hW) h0 (by omega) (by omega) (by omega) (by omega)
        rw [hpl] at h
        exact h)
      have HSE : Hid (ValC 17 #[.int .i64 ru, .agg #[.int .i64 n, .slice (some ⟨b3, off3, none⟩) L c'], .agg #[.int .i64 n, .slice (some ⟨b3, off3, none⟩) L c']] W1 (.bool (decide (C = 0)))) := hide (fun W hW => by
        have h := set_impl W ru n (some ⟨b3, off3, none⟩) c' vs n (some ⟨b3, off3, none⟩) c' vs (hRP.ext hW) (hRP.ext hW)
        rw [hC.set] at h
        rw [hpl] at h
        exact h)
      have HFP : Hid (ValC 18 #[.agg #[.int .i64 n, .slice (some ⟨b3, off3, none⟩) L c']] W1 (.string ⟨(Lib.join ((vs.map wdS).map (·.data.toList)) [32]).toArray⟩)) := hide (fun W hW => by
        have h := fpr_impl W n (some ⟨b3, off3, none⟩) c' vs (hRP.ext hW) h0 (by omega) h6
        rw [hpl] at h
        exact h)
      have HFX : Hid (C = 0 → ∀ W W' a4 c4, PlF W W' ru n vs a4 → ValC 18 #[.agg #[.int .i64 n, .slice a4 L c4]] W' (.string ⟨(Lib.join ((vs.map wdS).map (·.data.toList)) [32]).toArray⟩)) := hide (fun hc W W' a4 c4 ⟨us, g1, g2, g3, g4, g5⟩ W2 hW2 => by
        have e := g4 (hC.none hc)
        subst e
        have h := fpr_impl W2 n a4 c4 _ (g1.ext hW2) h0 (by omega) h6
        rw [hpl] at h
        exact h)
      have HPE : Hid (∀ W W' a4, PlF W W' ru n vs a4 → Ext W W') := hide (fun W W' a4 ⟨us, g1, g2, g3, g4, g5⟩ => g5)
      have hbl := rk_len hG.rk
      have hrl := reaO_len ru n vs k
      have hrl1 := hG.len
      have HLOW := hide hG.low
      have hasY := hG.hasY
      have hasW := hG.hasW
      have hcle := hC.le
      have hfst := hC.fst
      have HTWO := hide hC.two
      have HCT := hide hct
      generalize (⟨(Lib.join ((vs.map wdS).map (·.data.toList)) [32]).toArray⟩ : ByteArray) = T at HFP HFX
      generalize reaO ru n vs k = Lr at HREA hrl hrl1 HLOW hasY hasW
      generalize hbr : bstO ru n vs k = r at HBST HWR HWQ HGB hbl
      generalize gfstO ru n vs = fg at HFG hfst
      clear hG hC hRx hRP hx h0 h6 hxk hbr HS hct
      go_wp2_with fail
      refine (HREA.out _ hE4).mono ?_
      rintro e w5 ⟨ar, cr, rfl, hRr, hw5⟩
      have hE5 := hE4.trans hw5
      have hZ5 := hw5
      replace q0 := hw5.keep q0
      replace q1 := hw5.keep q1
      clear hE4 HREA hw5
      go_wp2_with fail
      refine (HBST.out _ hE5).mono ?_
      rintro e w6 ⟨ar2, cr2, rfl, hRb, hcb, hw6⟩
      have hE6 := hE5.trans hw6
      have hZ6 := hZ5.trans hw6
      replace q0 := hw6.keep q0
      replace q1 := hw6.keep q1
      replace hRr := hRr.ext hw6
      clear hE5 hZ5 HBST hw6
      go_wp2_with fail
      refine (HWR.out _ ar2 cr2 hE6 hRb hcb).mono ?_
      rintro e w7 ⟨a3, c3, rfl, hRq, hw7⟩
      have m0 := new0 w7 (.int .i64 n) [.slice a3 L c3] 26
      have m1 := new1 w7 (.int .i64 n) (.slice a3 L c3) [] 26
      have hEm := Ext.new w7 (.cells #[.int .i64 n, .slice a3 L c3] 26)
      have hx7 := hw7.trans hEm
      have hE7 := hE6.trans hx7
      have hZ7 := hZ6.trans hx7
      replace q0 := hx7.keep q0
      replace q1 := hx7.keep q1
      replace hRr := hRr.ext hx7
      replace hRb := hRb.ext hx7
      replace hRq := hRq.ext hEm
      clear hE6 hZ6 HWR hw7 hx7 hEm
      have t1 : ((Lr.length : Int) == 0) = false := by rw [beq_eq_false_iff_ne]; omega
      go_wp2_with fail
      generalize w7.alloc (.cells #[.int .i64 n, .slice a3 L c3] 26) = w8 at q0 q1 m0 m1 hRr hRb hRq hE7 hZ7 ⊢
      clear t1
      refine (HWQ.out _ a3 c3 hRq).mono ?_
      rintro e w9 ⟨rfl, hw9⟩
      have hE9 := hE7.trans hw9
      have hZ9 := hZ7.trans hw9
      replace q0 := hw9.keep q0
      replace q1 := hw9.keep q1
      replace hRr := hRr.ext hw9
      replace hRb := hRb.ext hw9
      clear hE7 hZ7 HWQ hw9 hRq m0 m1
      obtain ⟨wb, hwb⟩ : ∃ wb : World, wb = w9 := ⟨_, rfl⟩
      subst hwb
      have Q0 := q0
      have Q1 := q1
      clear q0 q1
      go_wp2_with fail
      go_loopw [15, 90] (fun _ i wr => ∃ m : Nat, m ≤ Lr.length ∧ i = .int .i64 m ∧ Ext wb wr) (fun _ i _ => Lr.length - (intOf i).toNat)
      case atStart => exact ⟨0, Nat.zero_le _, rfl, Ext.refl _⟩
      case round =>
        obtain ⟨m, hm, rfl, hwr⟩ := hrel
        by_cases hml : m < Lr.length
        · obtain ⟨z, hz⟩ := at_of_lt hml
          obtain ⟨bz, oz, ez, dz⟩ := (hRr.ext hwr).at_ hz
          subst ez
          have hpz := HPF.out z y
          rw [HLOW.out z (List.mem_of_getElem? hz)] at hpz
          have HPZ := hide hpz
          have hm1 : m + 1 ≤ Lr.length := by omega
          clear hz hpz
          go_wp2_with fail
          refine (HPZ.out.at _ (hZ9.trans hwr)).mono ?_
          rintro e w10 ⟨rfl, hw10⟩
          go_wp2
          exact ⟨⟨m + 1, hm1, by go_num, hwr.trans hw10⟩, by simp [intOf]; omega⟩
        · have hE10 := hE9.trans hwr
          have hZ10 := hZ9.trans hwr
          replace Q0 := hwr.keep Q0
          replace Q1 := hwr.keep Q1
          replace hRr := hRr.ext hwr
          replace hRb := hRb.ext hwr
          clear hE9 hZ9 HLOW hwr
          go_wp2_with fail
          refine (HGB.out _ hE10).mono ?_
          rintro e w11 ⟨vg, rfl, hgb, hw11⟩
          have hE11 := hE10.trans hw11
          have hZ11 := hZ10.trans hw11
          replace Q0 := hw11.keep Q0
          replace Q1 := hw11.keep Q1
          replace hRr := hRr.ext hw11
          replace hRb := hRb.ext hw11
          have HP2 := hide (HPF.out y wn)
          have HHY : Hid (∀ W, Ext w11 W → Calls Tryz.prog 13 #[.slice ar Lr.length cr, .int .i64 y] W fun e w' => e = .returned (.bool true) ∧ Ext W w') := hide (fun W hW => by
            have h := has_law W ar _ cr Lr y rfl (hRr.ext hW) (by omega)
            rw [hasY] at h
            exact h)
          have HHW : Hid (∀ W, Ext w11 W → Calls Tryz.prog 13 #[.slice ar Lr.length cr, .int .i64 wn] W fun e w' => e = .returned (.bool true) ∧ Ext W w') := hide (fun W hW => by
            have h := has_law W ar _ cr Lr wn rfl (hRr.ext hW) (by omega)
            rw [hasW] at h
            exact h)
          clear hE10 hZ10 HGB HPF hw11 hasY hasW hRr
          generalize prefB x.1 y wn = G at hgb HP2 ⊢
          cases G
          · clear hgb hRb
            go_wp2_with fail
            refine (HWP.out.at _ hE11).mono ?_
            rintro e w12 ⟨rfl, hw12⟩
            replace Q0 := hw12.keep Q0
            replace Q1 := hw12.keep Q1
            go_wp2_with fail
            refine (HP2.out.at _ (hZ11.trans hw12)).mono ?_
            rintro e w13 ⟨rfl, hw13⟩
            replace Q0 := hw13.keep Q0
            replace Q1 := hw13.keep Q1
            have hx13 := hw12.trans hw13
            clear hw12 hw13
            go_wp2_with fail
            refine (HHY.out _ hx13).mono ?_
            rintro e w14 ⟨rfl, hw14⟩
            replace Q0 := hw14.keep Q0
            replace Q1 := hw14.keep Q1
            have hx14 := hx13.trans hw14
            clear hx13 hw14
            go_wp2_with fail
            refine (HWP.out.at _ (hE11.trans hx14)).mono ?_
            rintro e w15 ⟨rfl, hw15⟩
            replace Q0 := hw15.keep Q0
            replace Q1 := hw15.keep Q1
            have hx15 := hx14.trans hw15
            clear hx14 hw15
            go_wp2_with fail
            refine (HHW.out _ hx15).mono ?_
            rintro e w16 ⟨rfl, hw16⟩
            replace Q0 := hw16.keep Q0
            replace Q1 := hw16.keep Q1
            have hE16 := hE11.trans (hx15.trans hw16)
            clear hx15 hw16 HHY HHW HP2 hE11 hZ11
            go_wp2_with fail
            refine (HCG.out.at _ hE16).mono ?_
            rintro e w17 ⟨rfl, hw17⟩
            replace Q0 := hw17.keep Q0
            replace Q1 := hw17.keep Q1
            go_wp2_with fail
            refine (HFG.out.at _ (hE16.trans hw17)).mono ?_
            rintro e w18 ⟨rfl, hw18⟩
            replace Q0 := hw18.keep Q0
            replace Q1 := hw18.keep Q1
            have hE18 := hE16.trans (hw17.trans hw18)
            clear hE16 hw17 hw18 HCG HFG HWP
            go_wp2_with fail
            refine (HPL.out _ hE18).mono ?_
            rintro e w19 ⟨a4, c4, rfl, hpl4⟩
            have hw19 := HPE.out _ _ _ hpl4
            have s0 := new0 w19 (.int .i64 n) [.slice a4 L c4] 26
            have s1 := new1 w19 (.int .i64 n) (.slice a4 L c4) [] 26
            have hEn := Ext.new w19 (.cells #[.int .i64 n, .slice a4 L c4] 26)
            replace Q0 := (hw19.trans hEn).keep Q0
            replace Q1 := (hw19.trans hEn).keep Q1
            have hE20 := (hE18.trans hw19).trans hEn
            have HFX2 := hide (fun hc : C = 0 => HFX.out hc _ _ a4 c4 hpl4)
            clear hE18 HPL HPE HFX hpl4 hw19
            by_cases hC0 : C = 0
            · have hfg : fg = -1 := by
                rcases hfst with ⟨_, h⟩ | ⟨h, _⟩
                · exact h
                · omega
              have HX2 := hide (fun W (hW : Ext (w19.alloc (.cells #[.int .i64 n, .slice a4 L c4] 26)) W) => HFX2.out hC0 W (hEn.trans hW))
              subst hC0
              subst hfg
              have HSE2 : Hid (∀ W, Ext W1 W → Calls Tryz.prog 17 #[.int .i64 ru, .agg #[.int .i64 n, .slice (some ⟨b3, off3, none⟩) L c'], .agg #[.int .i64 n, .slice (some ⟨b3, off3, none⟩) L c']] W fun e w' => e = .returned (.bool true) ∧ Ext W w') := hide (fun W hW => by
                have h := HSE.out W hW
                rw [decide_eq_true rfl] at h
                exact h)
              clear hfst HFX2 HSE HTWO hcle
              by_cases hn2 : n = 2
              · have t2 : ¬ (2 : Int) < (n : Int) := by omega
                clear hn2
                go_wp2_with fail
                generalize w19.alloc (.cells #[.int .i64 n, .slice a4 L c4] 26) = w20 at Q0 Q1 s0 s1 hE20 HX2 ⊢
                clear hEn
                refine wp_region_X (by kernel_rfl) (by kernel_rfl) ?_
                repeat' (refine wpX_stepQ (fun K hK => ?_)
                         go_simp
                         try (rw [if_neg (by intro h; simp [undef] at h)])
                         try split
                         all_goals
                           first
                           | (refine hK _ ?_
                              clear hK K)
                           | (apply Exists.intro
                              refine ⟨fun wq hwq => ?_, hK _ ?_⟩
                              · have hcq := hwq.cellS
                                go_simp
                                first
                                | exact ⟨Ext.refl _, rfl⟩
                              clear hK K))
                refine wpX_stepQ (fun K hK => ?_)
                go_simp
                apply Exists.intro
                refine ⟨fun wq hwq => ?_, hK _ ?_⟩
                · have hcq := hwq.cellS
                  go_simp
                  exact ⟨Ext.refl _, HSE2.out _ (hE20.trans hwq)⟩
                clear hK K
                repeat' (refine wpX_stepQ (fun K hK => ?_)
                         go_simp
                         try (rw [if_neg (by intro h; simp [undef] at h)])
                         try split
                         all_goals
                           first
                           | (refine hK _ ?_
                              clear hK K)
                           | (apply Exists.intro
                              refine ⟨fun wq hwq => ?_, hK _ ?_⟩
                              · have hcq := hwq.cellS
                                go_simp
                                first
                                | exact ⟨Ext.refl _, rfl⟩
                              clear hK K))
                refine wpX_stepQ (fun K hK => ?_)
                go_simp
                apply Exists.intro
                refine ⟨fun wq hwq => ?_, hK _ ?_⟩
                · have hcq := hwq.cellS
                  go_simp
                  exact ⟨Ext.refl _, HX2.out _ hwq⟩
                clear hK K
                repeat' (refine wpX_stepQ (fun K hK => ?_)
                         go_simp
                         try (rw [if_neg (by intro h; simp [undef] at h)])
                         try split
                         all_goals
                           first
                           | (refine hK _ ?_
                              clear hK K)
                           | (apply Exists.intro
                              refine ⟨fun wq hwq => ?_, hK _ ?_⟩
                              · have hcq := hwq.cellS
                                go_simp
                                first
                                | exact ⟨Ext.refl _, rfl⟩
                              clear hK K))
                refine wpX_stepQ (fun K hK => ?_)
                go_simp
                apply Exists.intro
                refine ⟨fun wq hwq => ?_, hK _ ?_⟩
                · have hcq := hwq.cellS
                  go_simp
                  exact ⟨Ext.refl _, HFP.out.at _ (hE20.trans hwq)⟩
                clear hK K
                repeat' (refine wpX_stepQ (fun K hK => ?_)
                         go_simp
                         try (rw [if_neg (by intro h; simp [undef] at h)])
                         try split
                         all_goals
                           first
                           | (refine hK _ ?_
                              clear hK K)
                           | (apply Exists.intro
                              refine ⟨fun wq hwq => ?_, hK _ ?_⟩
                              · have hcq := hwq.cellS
                                go_simp
                                first
                                | exact ⟨Ext.refl _, rfl⟩
                              clear hK K))
                refine wpX_nil (fun wz9 hwz9 => ?_)
                go_wp2
                go_ret
                exact ⟨rfl, hw.trans (hE20.trans hwz9)⟩
              · have t2 : (2 : Int) < (n : Int) := by omega
                clear hn2
                go_wp2_with fail
                generalize w19.alloc (.cells #[.int .i64 n, .slice a4 L c4] 26) = w20 at Q0 Q1 s0 s1 hE20 HX2 ⊢
                clear hEn
                refine wp_region_X (by kernel_rfl) (by kernel_rfl) ?_
                repeat' (refine wpX_stepQ (fun K hK => ?_)
                         go_simp
                         try (rw [if_neg (by intro h; simp [undef] at h)])
                         try split
                         all_goals
                           first
                           | (refine hK _ ?_
                              clear hK K)
                           | (apply Exists.intro
                              refine ⟨fun wq hwq => ?_, hK _ ?_⟩
                              · have hcq := hwq.cellS
                                go_simp
                                first
                                | exact ⟨Ext.refl _, rfl⟩
                              clear hK K))
                refine wpX_stepQ (fun K hK => ?_)
                go_simp
                apply Exists.intro
                refine ⟨fun wq hwq => ?_, hK _ ?_⟩
                · have hcq := hwq.cellS
                  go_simp
                  exact ⟨Ext.refl _, HSE2.out _ (hE20.trans hwq)⟩
                clear hK K
                repeat' (refine wpX_stepQ (fun K hK => ?_)
                         go_simp
                         try (rw [if_neg (by intro h; simp [undef] at h)])
                         try split
                         all_goals
                           first
                           | (refine hK _ ?_
                              clear hK K)
                           | (apply Exists.intro
                              refine ⟨fun wq hwq => ?_, hK _ ?_⟩
                              · have hcq := hwq.cellS
                                go_simp
                                first
                                | exact ⟨Ext.refl _, rfl⟩
                              clear hK K))
                refine wpX_stepQ (fun K hK => ?_)
                go_simp
                apply Exists.intro
                refine ⟨fun wq hwq => ?_, hK _ ?_⟩
                · have hcq := hwq.cellS
                  go_simp
                  exact ⟨Ext.refl _, HX2.out _ hwq⟩
                clear hK K
                repeat' (refine wpX_stepQ (fun K hK => ?_)
                         go_simp
                         try (rw [if_neg (by intro h; simp [undef] at h)])
                         try split
                         all_goals
                           first
                           | (refine hK _ ?_
                              clear hK K)
                           | (apply Exists.intro
                              refine ⟨fun wq hwq => ?_, hK _ ?_⟩
                              · have hcq := hwq.cellS
                                go_simp
                                first
                                | exact ⟨Ext.refl _, rfl⟩
                              clear hK K))
                refine wpX_stepQ (fun K hK => ?_)
                go_simp
                apply Exists.intro
                refine ⟨fun wq hwq => ?_, hK _ ?_⟩
                · have hcq := hwq.cellS
                  go_simp
                  exact ⟨Ext.refl _, HFP.out.at _ (hE20.trans hwq)⟩
                clear hK K
                repeat' (refine wpX_stepQ (fun K hK => ?_)
                         go_simp
                         try (rw [if_neg (by intro h; simp [undef] at h)])
                         try split
                         all_goals
                           first
                           | (refine hK _ ?_
                              clear hK K)
                           | (apply Exists.intro
                              refine ⟨fun wq hwq => ?_, hK _ ?_⟩
                              · have hcq := hwq.cellS
                                go_simp
                                first
                                | exact ⟨Ext.refl _, rfl⟩
                              clear hK K))
                refine wpX_nil (fun wz9 hwz9 => ?_)
                go_wp2
                go_ret
                exact ⟨rfl, hw.trans (hE20.trans hwz9)⟩
            · obtain ⟨f, hf⟩ : ∃ f : Nat, fg = f := by
                rcases hfst with ⟨h, _⟩ | ⟨_, f, h⟩
                · exact absurd h hC0
                · exact ⟨f, h⟩
              have t2 : (2 : Int) < (n : Int) := by
                by_cases hn2 : n = 2
                · exact absurd (HTWO.out hn2) hC0
                · omega
              subst hf
              have t3 : ((C : Int) == 0) = false := by rw [beq_eq_false_iff_ne]; omega
              have t4 : ((f : Int) == -1) = false := by rw [beq_eq_false_iff_ne]; omega
              have t5 : (0 : Int) < (C : Int) := by omega
              have t6 : 0 < C := by omega
              have HSE2 : Hid (∀ W, Ext W1 W → Calls Tryz.prog 17 #[.int .i64 ru, .agg #[.int .i64 n, .slice (some ⟨b3, off3, none⟩) L c'], .agg #[.int .i64 n, .slice (some ⟨b3, off3, none⟩) L c']] W fun e w' => e = .returned (.bool false) ∧ Ext W w') := hide (fun W hW => by
                have h := HSE.out W hW
                rw [decide_eq_false hC0] at h
                exact h)
              clear hfst HFX2 HSE HTWO hcle HFP
              go_wp2_with fail
              generalize w19.alloc (.cells #[.int .i64 n, .slice a4 L c4] 26) = w20 at Q0 Q1 s0 s1 hE20 ⊢
              clear hEn
              refine wp_region_X (by kernel_rfl) (by kernel_rfl) ?_
              repeat' (refine wpX_stepQ (fun K hK => ?_)
                       go_simp
                       try (rw [if_neg (by intro h; simp [undef] at h)])
                       try split
                       all_goals
                         first
                         | (refine hK _ ?_
                            clear hK K)
                         | (apply Exists.intro
                            refine ⟨fun wq hwq => ?_, hK _ ?_⟩
                            · have hcq := hwq.cellS
                              go_simp
                              first
                              | exact ⟨Ext.refl _, rfl⟩
                            clear hK K))
              refine wpX_stepQ (fun K hK => ?_)
              go_simp
              apply Exists.intro
              refine ⟨fun wq hwq => ?_, hK _ ?_⟩
              · have hcq := hwq.cellS
                go_simp
                exact ⟨Ext.refl _, HSE2.out _ (hE20.trans hwq)⟩
              clear hK K
              repeat' (refine wpX_stepQ (fun K hK => ?_)
                       go_simp
                       try (rw [if_neg (by intro h; simp [undef] at h)])
                       try split
                       all_goals
                         first
                         | (refine hK _ ?_
                            clear hK K)
                         | (apply Exists.intro
                            refine ⟨fun wq hwq => ?_, hK _ ?_⟩
                            · have hcq := hwq.cellS
                              go_simp
                              first
                              | exact ⟨Ext.refl _, rfl⟩
                            clear hK K))
              refine wpX_nil (fun wz9 hwz9 => ?_)
              go_wp2
              go_ret
              exact ⟨rfl, hw.trans (hE20.trans hwz9)⟩
          · obtain ⟨ag, cg, rfl, hRg⟩ := hgb rfl
            have HSAM : Hid (∀ W, Ext w11 W → Calls Tryz.prog 12 #[.slice ag r.length cg, .slice ar2 r.length cr2] W fun e w' => e = .returned (.bool true) ∧ Ext W w') := hide (fun W hW => same_law W ag ar2 _ _ cg cr2 r rfl rfl (hRg.ext hW) (hRb.ext hW) (by omega))
            clear hgb hRb hRg
            go_wp2_with fail
            refine (HWP.out.at _ hE11).mono ?_
            rintro e w12 ⟨rfl, hw12⟩
            replace Q0 := hw12.keep Q0
            replace Q1 := hw12.keep Q1
            go_wp2_with fail
            refine (HP2.out.at _ (hZ11.trans hw12)).mono ?_
            rintro e w13 ⟨rfl, hw13⟩
            replace Q0 := hw13.keep Q0
            replace Q1 := hw13.keep Q1
            have hx13 := hw12.trans hw13
            clear hw12 hw13
            go_wp2_with fail
            refine (HSAM.out _ hx13).mono ?_
            rintro e w13b ⟨rfl, hw13b⟩
            replace Q0 := hw13b.keep Q0
            replace Q1 := hw13b.keep Q1
            replace hx13 := hx13.trans hw13b
            clear hw13b HSAM
            go_wp2_with fail
            refine (HHY.out _ hx13).mono ?_
            rintro e w14 ⟨rfl, hw14⟩
            replace Q0 := hw14.keep Q0
            replace Q1 := hw14.keep Q1
            have hx14 := hx13.trans hw14
            clear hx13 hw14
            go_wp2_with fail
            refine (HWP.out.at _ (hE11.trans hx14)).mono ?_
            rintro e w15 ⟨rfl, hw15⟩
            replace Q0 := hw15.keep Q0
            replace Q1 := hw15.keep Q1
            have hx15 := hx14.trans hw15
            clear hx14 hw15
            go_wp2_with fail
            refine (HHW.out _ hx15).mono ?_
            rintro e w16 ⟨rfl, hw16⟩
            replace Q0 := hw16.keep Q0
            replace Q1 := hw16.keep Q1
            have hE16 := hE11.trans (hx15.trans hw16)
            clear hx15 hw16 HHY HHW HP2 hE11 hZ11
            go_wp2_with fail
            refine (HCG.out.at _ hE16).mono ?_
            rintro e w17 ⟨rfl, hw17⟩
            replace Q0 := hw17.keep Q0
            replace Q1 := hw17.keep Q1
            go_wp2_with fail
            refine (HFG.out.at _ (hE16.trans hw17)).mono ?_
            rintro e w18 ⟨rfl, hw18⟩
            replace Q0 := hw18.keep Q0
            replace Q1 := hw18.keep Q1
            have hE18 := hE16.trans (hw17.trans hw18)
            clear hE16 hw17 hw18 HCG HFG HWP
            go_wp2_with fail
            refine (HPL.out _ hE18).mono ?_
            rintro e w19 ⟨a4, c4, rfl, hpl4⟩
            have hw19 := HPE.out _ _ _ hpl4
            have s0 := new0 w19 (.int .i64 n) [.slice a4 L c4] 26
            have s1 := new1 w19 (.int .i64 n) (.slice a4 L c4) [] 26
            have hEn := Ext.new w19 (.cells #[.int .i64 n, .slice a4 L c4] 26)
            replace Q0 := (hw19.trans hEn).keep Q0
            replace Q1 := (hw19.trans hEn).keep Q1
            have hE20 := (hE18.trans hw19).trans hEn
            have HFX2 := hide (fun hc : C = 0 => HFX.out hc _ _ a4 c4 hpl4)
            clear hE18 HPL HPE HFX hpl4 hw19
            by_cases hC0 : C = 0
            · have hfg : fg = -1 := by
                rcases hfst with ⟨_, h⟩ | ⟨h, _⟩
                · exact h
                · omega
              have HX2 := hide (fun W (hW : Ext (w19.alloc (.cells #[.int .i64 n, .slice a4 L c4] 26)) W) => HFX2.out hC0 W (hEn.trans hW))
              subst hC0
              subst hfg
              have HSE2 : Hid (∀ W, Ext W1 W → Calls Tryz.prog 17 #[.int .i64 ru, .agg #[.int .i64 n, .slice (some ⟨b3, off3, none⟩) L c'], .agg #[.int .i64 n, .slice (some ⟨b3, off3, none⟩) L c']] W fun e w' => e = .returned (.bool true) ∧ Ext W w') := hide (fun W hW => by
                have h := HSE.out W hW
                rw [decide_eq_true rfl] at h
                exact h)
              clear hfst HFX2 HSE HTWO hcle
              by_cases hn2 : n = 2
              · have t2 : ¬ (2 : Int) < (n : Int) := by omega
                clear hn2
                go_wp2_with fail
                generalize w19.alloc (.cells #[.int .i64 n, .slice a4 L c4] 26) = w20 at Q0 Q1 s0 s1 hE20 HX2 ⊢
                clear hEn
                refine wp_region_X (by kernel_rfl) (by kernel_rfl) ?_
                repeat' (refine wpX_stepQ (fun K hK => ?_)
                         go_simp
                         try (rw [if_neg (by intro h; simp [undef] at h)])
                         try split
                         all_goals
                           first
                           | (refine hK _ ?_
                              clear hK K)
                           | (apply Exists.intro
                              refine ⟨fun wq hwq => ?_, hK _ ?_⟩
                              · have hcq := hwq.cellS
                                go_simp
                                first
                                | exact ⟨Ext.refl _, rfl⟩
                              clear hK K))
                refine wpX_stepQ (fun K hK => ?_)
                go_simp
                apply Exists.intro
                refine ⟨fun wq hwq => ?_, hK _ ?_⟩
                · have hcq := hwq.cellS
                  go_simp
                  exact ⟨Ext.refl _, HSE2.out _ (hE20.trans hwq)⟩
                clear hK K
                repeat' (refine wpX_stepQ (fun K hK => ?_)
                         go_simp
                         try (rw [if_neg (by intro h; simp [undef] at h)])
                         try split
                         all_goals
                           first
                           | (refine hK _ ?_
                              clear hK K)
                           | (apply Exists.intro
                              refine ⟨fun wq hwq => ?_, hK _ ?_⟩
                              · have hcq := hwq.cellS
                                go_simp
                                first
                                | exact ⟨Ext.refl _, rfl⟩
                              clear hK K))
                refine wpX_stepQ (fun K hK => ?_)
                go_simp
                apply Exists.intro
                refine ⟨fun wq hwq => ?_, hK _ ?_⟩
                · have hcq := hwq.cellS
                  go_simp
                  exact ⟨Ext.refl _, HX2.out _ hwq⟩
                clear hK K
                repeat' (refine wpX_stepQ (fun K hK => ?_)
                         go_simp
                         try (rw [if_neg (by intro h; simp [undef] at h)])
                         try split
                         all_goals
                           first
                           | (refine hK _ ?_
                              clear hK K)
                           | (apply Exists.intro
                              refine ⟨fun wq hwq => ?_, hK _ ?_⟩
                              · have hcq := hwq.cellS
                                go_simp
                                first
                                | exact ⟨Ext.refl _, rfl⟩
                              clear hK K))
                refine wpX_stepQ (fun K hK => ?_)
                go_simp
                apply Exists.intro
                refine ⟨fun wq hwq => ?_, hK _ ?_⟩
                · have hcq := hwq.cellS
                  go_simp
                  exact ⟨Ext.refl _, HFP.out.at _ (hE20.trans hwq)⟩
                clear hK K
                repeat' (refine wpX_stepQ (fun K hK => ?_)
                         go_simp
                         try (rw [if_neg (by intro h; simp [undef] at h)])
                         try split
                         all_goals
                           first
                           | (refine hK _ ?_
                              clear hK K)
                           | (apply Exists.intro
                              refine ⟨fun wq hwq => ?_, hK _ ?_⟩
                              · have hcq := hwq.cellS
                                go_simp
                                first
                                | exact ⟨Ext.refl _, rfl⟩
                              clear hK K))
                refine wpX_nil (fun wz9 hwz9 => ?_)
                go_wp2
                go_ret
                exact ⟨rfl, hw.trans (hE20.trans hwz9)⟩
              · have t2 : (2 : Int) < (n : Int) := by omega
                clear hn2
                go_wp2_with fail
                generalize w19.alloc (.cells #[.int .i64 n, .slice a4 L c4] 26) = w20 at Q0 Q1 s0 s1 hE20 HX2 ⊢
                clear hEn
                refine wp_region_X (by kernel_rfl) (by kernel_rfl) ?_
                repeat' (refine wpX_stepQ (fun K hK => ?_)
                         go_simp
                         try (rw [if_neg (by intro h; simp [undef] at h)])
                         try split
                         all_goals
                           first
                           | (refine hK _ ?_
                              clear hK K)
                           | (apply Exists.intro
                              refine ⟨fun wq hwq => ?_, hK _ ?_⟩
                              · have hcq := hwq.cellS
                                go_simp
                                first
                                | exact ⟨Ext.refl _, rfl⟩
                              clear hK K))
                refine wpX_stepQ (fun K hK => ?_)
                go_simp
                apply Exists.intro
                refine ⟨fun wq hwq => ?_, hK _ ?_⟩
                · have hcq := hwq.cellS
                  go_simp
                  exact ⟨Ext.refl _, HSE2.out _ (hE20.trans hwq)⟩
                clear hK K
                repeat' (refine wpX_stepQ (fun K hK => ?_)
                         go_simp
                         try (rw [if_neg (by intro h; simp [undef] at h)])
                         try split
                         all_goals
                           first
                           | (refine hK _ ?_
                              clear hK K)
                           | (apply Exists.intro
                              refine ⟨fun wq hwq => ?_, hK _ ?_⟩
                              · have hcq := hwq.cellS
                                go_simp
                                first
                                | exact ⟨Ext.refl _, rfl⟩
                              clear hK K))
                refine wpX_stepQ (fun K hK => ?_)
                go_simp
                apply Exists.intro
                refine ⟨fun wq hwq => ?_, hK _ ?_⟩
                · have hcq := hwq.cellS
                  go_simp
                  exact ⟨Ext.refl _, HX2.out _ hwq⟩
                clear hK K
                repeat' (refine wpX_stepQ (fun K hK => ?_)
                         go_simp
                         try (rw [if_neg (by intro h; simp [undef] at h)])
                         try split
                         all_goals
                           first
                           | (refine hK _ ?_
                              clear hK K)
                           | (apply Exists.intro
                              refine ⟨fun wq hwq => ?_, hK _ ?_⟩
                              · have hcq := hwq.cellS
                                go_simp
                                first
                                | exact ⟨Ext.refl _, rfl⟩
                              clear hK K))
                refine wpX_stepQ (fun K hK => ?_)
                go_simp
                apply Exists.intro
                refine ⟨fun wq hwq => ?_, hK _ ?_⟩
                · have hcq := hwq.cellS
                  go_simp
                  exact ⟨Ext.refl _, HFP.out.at _ (hE20.trans hwq)⟩
                clear hK K
                repeat' (refine wpX_stepQ (fun K hK => ?_)
                         go_simp
                         try (rw [if_neg (by intro h; simp [undef] at h)])
                         try split
                         all_goals
                           first
                           | (refine hK _ ?_
                              clear hK K)
                           | (apply Exists.intro
                              refine ⟨fun wq hwq => ?_, hK _ ?_⟩
                              · have hcq := hwq.cellS
                                go_simp
                                first
                                | exact ⟨Ext.refl _, rfl⟩
                              clear hK K))
                refine wpX_nil (fun wz9 hwz9 => ?_)
                go_wp2
                go_ret
                exact ⟨rfl, hw.trans (hE20.trans hwz9)⟩
            · obtain ⟨f, hf⟩ : ∃ f : Nat, fg = f := by
                rcases hfst with ⟨h, _⟩ | ⟨_, f, h⟩
                · exact absurd h hC0
                · exact ⟨f, h⟩
              have t2 : (2 : Int) < (n : Int) := by
                by_cases hn2 : n = 2
                · exact absurd (HTWO.out hn2) hC0
                · omega
              subst hf
              have t3 : ((C : Int) == 0) = false := by rw [beq_eq_false_iff_ne]; omega
              have t4 : ((f : Int) == -1) = false := by rw [beq_eq_false_iff_ne]; omega
              have t5 : (0 : Int) < (C : Int) := by omega
              have t6 : 0 < C := by omega
              have HSE2 : Hid (∀ W, Ext W1 W → Calls Tryz.prog 17 #[.int .i64 ru, .agg #[.int .i64 n, .slice (some ⟨b3, off3, none⟩) L c'], .agg #[.int .i64 n, .slice (some ⟨b3, off3, none⟩) L c']] W fun e w' => e = .returned (.bool false) ∧ Ext W w') := hide (fun W hW => by
                have h := HSE.out W hW
                rw [decide_eq_false hC0] at h
                exact h)
              clear hfst HFX2 HSE HTWO hcle HFP
              go_wp2_with fail
              generalize w19.alloc (.cells #[.int .i64 n, .slice a4 L c4] 26) = w20 at Q0 Q1 s0 s1 hE20 ⊢
              clear hEn
              refine wp_region_X (by kernel_rfl) (by kernel_rfl) ?_
              repeat' (refine wpX_stepQ (fun K hK => ?_)
                       go_simp
                       try (rw [if_neg (by intro h; simp [undef] at h)])
                       try split
                       all_goals
                         first
                         | (refine hK _ ?_
                            clear hK K)
                         | (apply Exists.intro
                            refine ⟨fun wq hwq => ?_, hK _ ?_⟩
                            · have hcq := hwq.cellS
                              go_simp
                              first
                              | exact ⟨Ext.refl _, rfl⟩
                            clear hK K))
              refine wpX_stepQ (fun K hK => ?_)
              go_simp
              apply Exists.intro
              refine ⟨fun wq hwq => ?_, hK _ ?_⟩
              · have hcq := hwq.cellS
                go_simp
                exact ⟨Ext.refl _, HSE2.out _ (hE20.trans hwq)⟩
              clear hK K
              repeat' (refine wpX_stepQ (fun K hK => ?_)
                       go_simp
                       try (rw [if_neg (by intro h; simp [undef] at h)])
                       try split
                       all_goals
                         first
                         | (refine hK _ ?_
                            clear hK K)
                         | (apply Exists.intro
                            refine ⟨fun wq hwq => ?_, hK _ ?_⟩
                            · have hcq := hwq.cellS
                              go_simp
                              first
                              | exact ⟨Ext.refl _, rfl⟩
                            clear hK K))
              refine wpX_nil (fun wz9 hwz9 => ?_)
              go_wp2
              go_ret
              exact ⟨rfl, hw.trans (hE20.trans hwz9)⟩
  · go_enter Tryz.func3, Tryz.ntmps3
    go_wp2
    go_ret
    exact ⟨rfl, (by repeat (first | exact Ext.refl _ | assumption | refine Ext.alloc ?_ _ | refine Ext.drew ?_ | refine Ext.trans ?_ (by assumption)))⟩

end Go.Proofs.YtfmeklgdaabooaaGreatDoor
