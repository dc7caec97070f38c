/- The walk through FnRules. -/
import Derived.Test.YtilcdnkkabmbfaaGreatOpenY
import Derived.Test.YtilcdnkkabmbfaaGreatDrw
import Derived.Test.YtilcdnkkabmbfaaGreatRlqP
import Derived.Test.YtilcdnkkabmbfaaGreatSpo
import Derived.Test.YtilcdnkkabmbfaaGreatRul
namespace Go.Proofs.YtilcdnkkabmbfaaGreat
open Go.RowKit

set_option maxRecDepth 100000 in
set_option maxHeartbeats 4000000 in
theorem dropno_impl (w : World) (n : Nat) (a : Option Addr) (c : Nat) (vs : List Vt) (n1 : (1 : Int) ≤ n) (n5 : (n : Int) ≤ 5) :
    Calls Tryz.prog 20 #[.agg #[.int .i64 n, .slice a vs.length c], .int .i64 (-1)] w fun e w' => e = .returned (.tuple #[.agg #[.int .i64 0, .slice none 0 0], .bool false]) ∧ Ext w w' := by
  have q0 := new0 w (.int .i64 n) [.slice a vs.length c] 29
  have q1 := new1 w (.int .i64 n) (.slice a vs.length c) [] 29
  have hs0 : (w.alloc (.cells #[.int .i64 n, .slice a vs.length c] 29)).heap.size = w.heap.size + 1 := by simp
  have y00 := new0 (w.alloc (.cells #[.int .i64 n, .slice a vs.length c] 29)) (.int .i64 (-1)) [] 3
  have hs1 : ((w.alloc (.cells #[.int .i64 n, .slice a vs.length c] 29)).alloc (.cells #[.int .i64 (-1)] 3)).heap.size = w.heap.size + 2 := by simp
  have p0 := BlkF.new ((w.alloc (.cells #[.int .i64 n, .slice a vs.length c] 29)).alloc (.cells #[.int .i64 (-1)] 3)) #[.int .i64 0, .slice none 0 0] 29
  rw [hs0] at y00
  rw [hs1] at p0
  have P0 := hide p0
  clear p0 hs0 hs1
  have hb : hasB n (-1) = false := by
    cases h : hasB n (-1)
    · rfl
    · have := inR_iff.1 h
      omega
  have HN := hide (⟨n1, n5⟩ : (1 : Int) ≤ n ∧ (n : Int) ≤ 5)
  go_enter Tryz.func20, Tryz.ntmps20
  go_wp2_with fail
  have HH := cand_impl (((w.alloc (.cells #[.int .i64 n, .slice a vs.length c] 29)).alloc (.cells #[.int .i64 (-1)] 3)).alloc (.cells #[.int .i64 0, .slice none 0 0] 29)) n a vs.length c (-1) HN.out.1 HN.out.2
  rw [hb] at HH
  refine HH.mono ?_
  rintro e w1 ⟨rfl, hw1⟩
  have p1 := P0.out.ext hw1
  have q0 := Ext.keep (w' := w1) (by repeat (first | exact Ext.refl _ | assumption | refine Ext.alloc ?_ _ | refine Ext.drew ?_ | refine Ext.trans ?_ (by assumption))) q0
  have q1 := Ext.keep (w' := w1) (by repeat (first | exact Ext.refl _ | assumption | refine Ext.alloc ?_ _ | refine Ext.drew ?_ | refine Ext.trans ?_ (by assumption))) q1
  have hw : Ext w w1 := (by repeat (first | exact Ext.refl _ | assumption | refine Ext.alloc ?_ _ | refine Ext.drew ?_ | refine Ext.trans ?_ (by assumption)))
  have r0 := p1.cell 0 (by simp)
  have r1 := p1.cell 1 (by simp)
  have z0 := p1.fr 0
  have z1 := p1.fr 1
  clear p1 P0 hw1 hb
  go_wp2
  have hO1 : Only (w.heap.size + 2) w1 ((w1.setCell ⟨w.heap.size + 2, 0, none⟩ (.int .i64 0)).setCell ⟨w.heap.size + 2, 1, none⟩ (.slice none 0 0)) := ((Only.refl _ w1).setCell 0 _).setCell 1 _
  exact bodyPost_ret (v := .tuple #[.agg #[.int .i64 0, .slice none 0 0], .bool false]) (by simp [results, Tryz.results20, go_sem, r0, r1]) rfl ⟨rfl, Only.ext hw hO1 (by omega)⟩

set_option maxRecDepth 100000 in
set_option maxHeartbeats 8000000 in
theorem rlq_law (w : World) (a : Option Addr) (c : Nat) (bs : List Int) (hR : RdY w a bs) (_ : bs.length ≤ maxLen) :
    Calls Tryz.prog 5 #[.slice a bs.length c] w fun e w' => e = .returned (.bool true) ∧ Ext w w' := by
  by_cases hb : bs.length ≤ 1048576
  · go_enter Tryz.func5, Tryz.ntmps5
    go_wp2_with fail
    refine (numY_spec _ a c 0 bs (hR.ext (by repeat (first | exact Ext.refl _ | assumption | refine Ext.alloc ?_ _ | refine Ext.drew ?_ | refine Ext.trans ?_ (by assumption)))) hb (by omega)).mono ?_
    rintro e w1 ⟨x, rfl, hx, hw1⟩
    go_wp2_with fail
    obtain ⟨n, hn, n1, n4⟩ : ∃ n : Nat, 1 + (x : Int) % 4 = n ∧ 1 ≤ n ∧ n ≤ 4 := ⟨(1 + (x : Int) % 4).toNat, by omega, by omega, by omega⟩
    rw [hn]
    clear hn hx
    refine (mkprof_spec _ a c 2 n bs (hR.ext (by repeat (first | exact Ext.refl _ | assumption | refine Ext.alloc ?_ _ | refine Ext.drew ?_ | refine Ext.trans ?_ (by assumption)))) hb (by omega) n1 (by omega)).mono ?_
    rintro e w2 ⟨v, rfl, a', vs, c', rfl, hRV, ⟨h0, v1, v5, v6⟩, hw2⟩
    clear v1 v5 v6
    have q0 := new0 w2 (.int .i64 n) [.slice a' vs.length c'] 29
    have q1 := new1 w2 (.int .i64 n) (.slice a' vs.length c') [] 29
    have hE := Ext.new w2 (.cells #[.int .i64 n, .slice a' vs.length c'] 29)
    go_wp2_with fail
    have hw := (Ext.trans hw1 hw2).trans hE
    have hRV := hRV.ext hE
    have HNUM : Hid (∀ W', Ext w W' → Calls Tryz.prog 14 #[.slice a bs.length c, .int .i64 (60 : Nat)] W' fun e w' => ∃ x : Nat, e = .returned (.int .i64 x) ∧ x ≤ 65536 ∧ Ext W' w') := hide (fun W' hW' => (numY_spec W' a c 60 bs (hR.ext hW') hb (by omega)).mono fun e w' ⟨x, h1, h2, h3⟩ => ⟨x, h1, by omega, h3⟩)
    clear hR hb hw1 hw2 hE
    generalize w2.alloc (.cells #[.int .i64 n, .slice a' vs.length c'] 29) = W0 at hw hRV q0 q1 ⊢
    have HRU : Hid (∀ W (k : Nat), Ext W0 W → Calls Tryz.prog 16 #[.agg #[.int .i64 n, .slice a' vs.length c'], .int .i64 k] W fun e w' => ∃ ar cr, e = .returned (.slice ar (rulO n vs k).length cr) ∧ RdI w' ar (rulO n vs k) ∧ Ext W w') := hide (fun W k hW => (rul_impl W n a' c' vs k (hRV.ext hW)).mono fun e w' ⟨v, h1, h2, h3⟩ => by
      obtain ⟨ar, cr, hv, _, _, hRr, _⟩ := h2.val
      exact ⟨ar, cr, by rw [h1, hv], hRr, h3⟩)
    have HWS : Hid (∀ W (r : Int), Ext W0 W → Calls Tryz.prog 17 #[.int .i64 r, .agg #[.int .i64 n, .slice a' vs.length c']] W fun e w' => ∃ ar cr, e = .returned (.slice ar (winO r n vs).length cr) ∧ RdI w' ar (winO r n vs) ∧ Ext W w') := hide (fun W r hW => (wins_impl W r n a' c' vs (hRV.ext hW)).mono fun e w' ⟨v, h1, h2, h3⟩ => by
      obtain ⟨ar, cr, hv, _, _, hRr, _⟩ := h2.val
      exact ⟨ar, cr, by rw [h1, hv], hRr, h3⟩)
    have HWB : Hid (∀ W (r : Int), Ext W0 W → Calls Tryz.prog 18 #[.int .i64 r, .agg #[.int .i64 n, .slice a' vs.length c']] W fun e w' => e = .returned (.int .i64 (winB r n vs)) ∧ Ext W w') := hide (fun W r hW => winb_impl W r n a' c' vs (hRV.ext hW))
    have HSP : Hid (∀ W (r : Int), Ext W0 W → Calls Tryz.prog 19 #[.int .i64 r, .agg #[.int .i64 n, .slice a' vs.length c']] W fun e w' => e = .returned (.int .i64 (spoO r n vs)) ∧ Ext W w') := hide (fun W r hW => spo_impl W r n a' c' vs (hRV.ext hW))
    have HD0 : Hid (∀ W, Calls Tryz.prog 20 #[.agg #[.int .i64 n, .slice a' vs.length c'], .int .i64 (-1)] W fun e w' => e = .returned (.tuple #[.agg #[.int .i64 0, .slice none 0 0], .bool false]) ∧ Ext W w') := hide (fun W => dropno_impl W n a' c' vs (by omega) (by omega))
    have HD1 : Hid (∀ W (y : Nat), Ext W0 W → 2 ≤ n → y < n → Calls Tryz.prog 20 #[.agg #[.int .i64 n, .slice a' vs.length c'], .int .i64 y] W fun e w' => ∃ a2 m2 c2, e = .returned (.tuple #[.agg #[.int .i64 ((n : Int) - 1), .slice a2 m2 c2], .bool true]) ∧ m2 = (mapV (dropL y) vs).length ∧ RdV w' a2 (mapV (dropL y) vs) ∧ Ext W w') := hide (fun W y hW hn hy => (dropP_impl W n a' c' vs y (hRV.ext hW) h0 (by omega) (by omega)).mono fun e w2 h => by
      obtain ⟨v, es, rfl, hl, hm, hw2⟩ := h
      obtain ⟨av, cv, rfl, hcv⟩ := hl.form
      have hRv := hl.rdV
      rw [hm, dropMap] at hRv
      exact ⟨_, _, _, rfl, vtsOf_len (by rw [hm, dropMap]), hRv, hw2⟩)
    have H0 := hide h0
    have HT := hide (rulT_all h0)
    have n5 : n ≤ 5 := by omega
    clear h0 hRV
    have Q0 := q0
    have Q1 := q1
    as_aux_lemma =>
      go_wp2_with fail
      go_loopw [5, 6, 7, 9, 10, 37, 38, 39] (fun s i _ _ _ _ _ _ wr => ∃ k : Nat, k ≤ n ∧ i = .int .i64 k ∧ s = .int .i64 (rulT n vs k : Nat) ∧ Ext W0 wr) (fun _ i _ _ _ _ _ _ _ => n - (intOf i).toNat)
      case atStart => exact ⟨0, Nat.zero_le _, rfl, rfl, Ext.refl _⟩
      case round =>
        obtain ⟨k, hk, rfl, rfl, hwr⟩ := hrel
        have q0 := hwr.keep Q0
        have q1 := hwr.keep Q1
        by_cases hlt : k < n
        · have HS : Hid (rulT n vs (k + 1) = rulT n vs k + (rulO n vs k).length) := rfl
          have HAT : Hid (∀ j r, (rulO n vs k)[j]? = some r → 1 ≤ r ∧ r ≤ 13 ∧ winB r n vs = k) := hide (fun j r h => rul_at h)
          have hb1 := rulO_len n vs k
          have hb2 := rulT_le n vs k
          have HC := hide (HRU.out wr k hwr)
          generalize rulO n vs k = ls at HS HAT HC hb1
          generalize rulT n vs k = T0 at HS hb2 ⊢
          have hk1 : k + 1 ≤ n := by omega
          have hT : T0 ≤ 1000 := by omega
          go_wp2_with fail
          refine HC.out.mono ?_
          rintro e w3 ⟨ar, cr, rfl, hRr, hw3⟩
          have q0 := hw3.keep q0
          have q1 := hw3.keep q1
          obtain ⟨wo, hwo⟩ : ∃ wo : World, wo = w3 := ⟨_, rfl⟩
          subst hwo
          have HEo := hide (hwr.trans hw3)
          clear hwr hw3 HC hb2
          have P0 := q0
          have P1 := q1
          go_wp2_with fail
          go_loopw [9, 10, 39] (fun _ _ j wr => ∃ m : Nat, m ≤ ls.length ∧ j = .int .i64 m ∧ Ext wo wr) (fun _ _ j _ => ls.length - (intOf j).toNat)
          case atStart => exact ⟨0, Nat.zero_le _, rfl, Ext.refl _⟩
          case round =>
            obtain ⟨m, hm, rfl, hwr⟩ := hrel
            have q0 := hwr.keep P0
            have q1 := hwr.keep P1
            by_cases hml : m < ls.length
            · obtain ⟨r, hr⟩ := at_of_lt hml
              obtain ⟨r1, r2, hrw⟩ := HAT.out m r hr
              obtain ⟨b4, o4, rfl, d4⟩ := (hRr.ext hwr).at_ hr
              have HW1 := hide (fun W (hW : Ext wo W) => HWS.out W r (HEo.out.trans hW))
              have HW2 := hide (fun W (hW : Ext wo W) => HWB.out W r (HEo.out.trans hW))
              rw [hrw] at HW2
              obtain ⟨aw, haw, ew, hwl, hw0⟩ := win_headB (rule := r) H0.out r1 r2
              have hak : aw = k := by omega
              rw [hak] at hw0
              generalize winO r n vs = ws at HW1 hwl hw0
              clear hr hrw ew haw hak aw hRr
              have hm1 : m + 1 ≤ ls.length := by omega
              go_wp2_with fail
              refine (HW1.out _ hwr).mono ?_
              rintro e w4 ⟨aw, cw, rfl, hRw, hw4⟩
              have q0 := hw4.keep q0
              have q1 := hw4.keep q1
              obtain ⟨b5, o5, rfl, d5⟩ := hRw.at_ hw0
              rw [Nat.add_zero] at d5
              have hE4 := hwr.trans hw4
              have t1 : ((ws.length : Int) == 0) = false := by rw [beq_eq_false_iff_ne]; omega
              clear hRw hw4 hwr hw0
              go_wp2_with fail
              refine (HW2.out _ hE4).mono ?_
              rintro e w5 ⟨rfl, hw5⟩
              go_wp2
              exact ⟨⟨m + 1, hm1, by go_num, hE4.trans hw5⟩, by simp [intOf]; omega⟩
            · go_wp2
              exact ⟨⟨k + 1, hk1, by go_num, by rw [HS.out]; go_num, HEo.out.trans hwr⟩, by simp [intOf]; omega⟩
        · have hkn : k = n := by omega
          rw [hkn, HT.out]
          clear HT hkn hlt hk
          go_wp2_with fail
          refine (HNUM.out _ (hw.trans hwr)).mono ?_
          rintro e w3 ⟨x, rfl, hx, hw3⟩
          have q0 := hw3.keep q0
          have q1 := hw3.keep q1
          have hE3 := hwr.trans hw3
          clear hw3 hwr HNUM
          go_wp2_with fail
          obtain ⟨rr, hrr, r1, r2⟩ : ∃ r : Int, 1 + (x : Int) % 13 = r ∧ 1 ≤ r ∧ r ≤ 13 := ⟨1 + (x : Int) % 13, rfl, by omega, by omega⟩
          rw [hrr]
          clear hrr hx
          obtain ⟨aw, haw, ew, hwl, hw0⟩ := win_headB (rule := rr) H0.out r1 r2
          obtain ⟨q, hq⟩ := win_up (rule := rr) H0.out r1 r2
          rw [← winO_eq H0.out] at hq
          have HW1 := hide (fun W (hW : Ext W0 W) => HWS.out W rr hW)
          have HWQ := hide (⟨fun i x h => up_at (n := n) (q := q) (i := i) (x := x) h, fun i x y h1 h2 => up_lt (n := n) (q := q) (i := i) (x := x) (y := y) h1 h2⟩ : (∀ (i : Nat) (x : Int), (upL n q)[i]? = some x → 0 ≤ x ∧ x < n) ∧ (∀ (i : Nat) (x y : Int), (upL n q)[i]? = some x → (upL n q)[i + 1]? = some y → x < y))
          rw [← hq] at HWQ
          have hw5l := winO_len rr n vs
          generalize winO rr n vs = ws at HW1 HWQ hwl hw0 hw5l
          clear hq hw0
          refine (HW1.out _ hE3).mono ?_
          rintro e w4 ⟨av, cv, rfl, hRw, hw4⟩
          have q0 := hw4.keep q0
          have q1 := hw4.keep q1
          have hE4 := hE3.trans hw4
          obtain ⟨wo, hwo⟩ : ∃ wo : World, wo = w4 := ⟨_, rfl⟩
          subst hwo
          clear hw4 hE3 HW1
          have P0 := q0
          have P1 := q1
          as_aux_lemma =>
            go_wp2_with fail
            go_loopw [13, 14, 77] (fun _ _ j wr => ∃ m : Nat, m ≤ ws.length ∧ j = .int .i64 m ∧ wr = wo) (fun _ _ j _ => ws.length - (intOf j).toNat)
            case atStart => exact ⟨0, Nat.zero_le _, rfl, rfl⟩
            case round =>
              obtain ⟨m, hm, rfl, rfl⟩ := hrel
              by_cases hml : m < ws.length
              · obtain ⟨y, hy⟩ := at_of_lt hml
                obtain ⟨y0, y1⟩ := HWQ.out.1 m y hy
                obtain ⟨b4, o4, rfl, d4⟩ := hRw.at_ hy
                have t1 : ¬ y < 0 := by omega
                have t2 : ¬ (n : Int) ≤ y := by omega
                cases m with
                | zero =>
                  rw [Nat.add_zero] at d4
                  go_wp2
                  exact ⟨⟨1, by omega, by go_num, trivial⟩, by simp [intOf]; omega⟩
                | succ m' =>
                  obtain ⟨z, hz⟩ := at_of_lt (xs := ws) (k := m') (by omega)
                  have hzy := HWQ.out.2 m' z y hz hy
                  obtain ⟨b5, o5, e5, d5⟩ := hRw.at_ hz
                  injection e5 with e5
                  injection e5 with e5 e6
                  subst e5
                  subst e6
                  have t3 : ¬ y ≤ z := by omega
                  have t4 : wrap64 (((m' + 1 : Nat) : Int) - 1) = (m' : Int) := by rw [IntWalk.wrap64_in _ (by omega)]; omega
                  clear hy hz hzy hRw y0 y1
                  go_wp2
                  exact ⟨⟨m' + 1 + 1, by omega, by go_num, trivial⟩, by simp [intOf]; omega⟩
              · have q0 := P0
                have q1 := P1
                go_wp2_with fail
                refine (HSP.out _ rr hE4).mono ?_
                rintro e w5 ⟨rfl, hw5⟩
                have q0 := hw5.keep q0
                have q1 := hw5.keep q1
                have hE5 := hE4.trans hw5
                have hF14 : Hid (winB 14 n vs = -1) := hide (by
                  by_cases h : 0 ≤ winB 14 n vs
                  · have := winB_pos h
                    omega
                  · have h2 : winL 14 n vs = [] := winL_out (by omega)
                    unfold winB
                    rw [winO_eq H0.out, h2]; rfl)
                rcases spo_cases rr H0.out r1 r2 with hs | ⟨sx, sxn, n2, hs, hs1, hs2⟩
                · rw [hs]
                  go_wp2_with fail
                  refine (HD0.out _).mono ?_
                  rintro e w6 ⟨rfl, hw6⟩
                  have q0 := hw6.keep q0
                  have q1 := hw6.keep q1
                  have hE6 := (hE5.trans hw6).trans (Ext.new w6 (.cells #[.int .i64 0, .slice none 0 0] 29))
                  have q0 := (Ext.new w6 (.cells #[.int .i64 0, .slice none 0 0] 29)).keep q0
                  have q1 := (Ext.new w6 (.cells #[.int .i64 0, .slice none 0 0] 29)).keep q1
                  go_wp2_with fail
                  refine (HWB.out _ 14 hE6).mono ?_
                  rintro e w7 ⟨rfl, hw7⟩
                  rw [hF14.out]
                  go_wp2
                  go_ret
                  exact ⟨rfl, hw.trans (hE6.trans hw7)⟩
                · rw [hs]
                  have HWr := hide (fun W (hW : Ext W0 W) => HWB.out W rr hW)
                  rw [ew] at hs1 hs2 HWr
                  have HWI : Hid (∀ w' a3 n3 c3, n3 = (mapV (dropL sx) vs).length → RdV w' a3 (mapV (dropL sx) vs) → Calls Tryz.prog 18 #[.int .i64 rr, .agg #[.int .i64 ((n : Int) - 1), .slice a3 n3 c3]] w' fun e w'' => e = .returned (.int .i64 (winB rr ((n : Int) - 1) (mapV (dropL sx) vs))) ∧ Ext w' w'') := fun w' a3 n3 c3 hn hR3 => by
                    rw [hn]; exact winb_impl w' rr _ a3 c3 _ hR3
                  generalize winB rr ((n : Int) - 1) (mapV (dropL sx) vs) = W at HWI hs2
                  have t1 : ((sx : Int) == (aw : Int)) = false := by rw [beq_eq_false_iff_ne]; exact fun e => hs1 e.symm
                  have t0 : (0 : Int) ≤ (sx : Int) := by omega
                  have hk5 : aw ≤ 5 := by omega
                  clear hs1 hs ew
                  go_wp2_with fail
                  refine (HD1.out _ sx hE5 n2 sxn).mono ?_
                  rintro e w6 ⟨a2, m2, c2, rfl, hm2, hR2, hw6⟩
                  have HM2 := hide hm2
                  clear hm2
                  have hN := Ext.new w6 (.cells #[.int .i64 ((n : Int) - 1), .slice a2 m2 c2] 29)
                  have hE6 := (hE5.trans hw6).trans hN
                  have q0 := hN.keep (hw6.keep q0)
                  have q1 := hN.keep (hw6.keep q1)
                  have x0 := new0 w6 (.int .i64 ((n : Int) - 1)) [.slice a2 m2 c2] 29
                  have x1 := new1 w6 (.int .i64 ((n : Int) - 1)) (.slice a2 m2 c2) [] 29
                  have hR2 := hR2.ext hN
                  clear hw6 hN hE5
                  go_wp2_with fail
                  refine (HWr.out _ hE6).mono ?_
                  rintro e w7 ⟨rfl, hw7⟩
                  have q0 := hw7.keep q0
                  have q1 := hw7.keep q1
                  have x0 := hw7.keep x0
                  have x1 := hw7.keep x1
                  have hR2 := hR2.ext hw7
                  have hE7 := hE6.trans hw7
                  clear hw7 hE6
                  go_wp2_with fail
                  refine (HWr.out _ hE7).mono ?_
                  rintro e w8 ⟨rfl, hw8⟩
                  have q0 := hw8.keep q0
                  have q1 := hw8.keep q1
                  have x0 := hw8.keep x0
                  have x1 := hw8.keep x1
                  have hR2 := hR2.ext hw8
                  have hE8 := hE7.trans hw8
                  clear hw8 hE7
                  by_cases hlt : (sx : Int) < (aw : Int)
                  · rw [if_pos hlt] at hs2
                    have y1 : wrap64 ((aw : Int) - 1) = (aw : Int) - 1 := IntWalk.wrap64_in _ (by omega)
                    have t2 : (W == ((aw : Int) - 1)) = false := by rw [beq_eq_false_iff_ne]; exact hs2
                    go_wp2_with fail
                    refine (HWI.out _ a2 m2 c2 HM2.out hR2).mono ?_
                    rintro e w9 ⟨rfl, hw9⟩
                    have q0 := hw9.keep q0
                    have q1 := hw9.keep q1
                    go_wp2_with fail
                    refine (HWB.out _ 14 (hE8.trans hw9)).mono ?_
                    rintro e w10 ⟨rfl, hw10⟩
                    rw [hF14.out]
                    go_wp2
                    go_ret
                    exact ⟨rfl, hw.trans ((hE8.trans hw9).trans hw10)⟩
                  · rw [if_neg hlt] at hs2
                    have t2 : (W == (aw : Int)) = false := by rw [beq_eq_false_iff_ne]; exact hs2
                    go_wp2_with fail
                    refine (HWI.out _ a2 m2 c2 HM2.out hR2).mono ?_
                    rintro e w9 ⟨rfl, hw9⟩
                    have q0 := hw9.keep q0
                    have q1 := hw9.keep q1
                    go_wp2_with fail
                    refine (HWB.out _ 14 (hE8.trans hw9)).mono ?_
                    rintro e w10 ⟨rfl, hw10⟩
                    rw [hF14.out]
                    go_wp2
                    go_ret
                    exact ⟨rfl, hw.trans ((hE8.trans hw9).trans hw10)⟩
  · go_enter Tryz.func5, Tryz.ntmps5
    go_wp2
    go_ret
    exact ⟨rfl, (by repeat (first | exact Ext.refl _ | assumption | refine Ext.alloc ?_ _ | refine Ext.drew ?_ | refine Ext.trans ?_ (by assumption)))⟩

section
open Go.ChangeShapes Go.WideShapes Go.ChangeAt Go.RowKit Go.Joins Go.Deep
set_option maxRecDepth 100000 in
theorem fnRules_lifted (os : Os) (started : os.Started) (H : Type) (enc : TypeId × Value → H) :
    ReturnsInHanded {} Tryz.checked os 5 .any (Rows.fnRulesSpec.pre6 enc Tryz.prog Tryz.f5 Rows.fnRulesRow.domain false) (Rows.fnRulesSpec.post enc Tryz.prog Tryz.f5 false true false false) := by
  refine returnsInHanded_of_change (C := Tryz.checked) own started (by kernel_rfl) Tryz.func5
    (ChangeSpec.witness6 (enc := enc) (C := Tryz.checked) false ⟨#[], #[.slice Option.none 0 0], []⟩ 8 (by kernel_rfl) (by kernel_rfl) (by kernel_rfl) (by kernel_rfl)) ?_
  intro W base args ds gs before hval0 hW hcnd _
  have hval : ∀ (j : Nat) t v, Tryz.f5.params[j]? = some t → args[j]? = some v → Value.okWide Tryz.prog W .any base t v := hval0
  have hW' := hW
  obtain ⟨p, q, hA0, hV, rfl, hfz, hnd⟩ := hW
  have hA : DataW.TrodAll enc Tryz.prog W 0 (fun _ => true) true Tryz.f5.params.toList args.toList ds p := hA0
  rw [Tryz.params5] at hA hval
  obtain ⟨v0, vs0, d0, ds0, p0, q0, hargs, rfl, rfl, h0, r0⟩ := trodAll_cons hA
  obtain ⟨rfl, rfl, rfl⟩ := trodAll_nil r0
  obtain rfl : args = #[v0] := by cases args; simp_all
  obtain ⟨rfl, rfl⟩ := trodVars_none hV
  have k0 := h0
  have lt0 : ∀ x ∈ p0, x.block < W.heap.size := by obtain ⟨m, hm⟩ := k0; exact DataW.trod_lt m _ _ _ hm
  obtain ⟨a0, bs0, c0, rfl, hR0, hl0⟩ := openY (hval 0 33 v0 rfl rfl) h0
  clear hA0 hval0
  refine (rlq_law W a0 c0 bs0 hR0 hl0).mono fun e W' ⟨he, bel⟩ => ?_
  subst he
  exact ⟨_, rfl, _, _, _, [], _, [], hW', trodAll_mk1 (shut_bool Tryz.underlying4 _), (trodAll_cons_mk (Below.trod laidOut (by kernel_rfl) (of_decide_eq_true (by kernel_rfl)) k0 bel lt0) trodAll_mk0), rfl, bel.frame _, fun h => by cases h⟩
end

end Go.Proofs.YtilcdnkkabmbfaaGreat
