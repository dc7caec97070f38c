/- A vote without which a candidate wins that it prefers, of the program. -/
import Derived.Test.YtilcdnkkabmbfaaGreatCk22
import Derived.Test.YtilcdnkkabmbfaaGreatCk19
namespace Go.Proofs.YtilcdnkkabmbfaaGreat
open Go.RowKit

set_option maxRecDepth 100000 in
set_option maxHeartbeats 16000000 in
theorem abs_impl (w : World) (rule sz : Int) (a : Option Addr) (c : Nat) (vs : List Vt) (hc : vs.length ≤ c) (hR : RdV w a vs) :
    Calls Tryz.prog 23 #[.int .i64 rule, .agg #[.int .i64 sz, .slice a vs.length c]] w fun e w' => e = .returned (.int .i64 (absO rule sz vs)) ∧ Ext w w' := by
  have q0 := new0 w (.int .i64 sz) [.slice a vs.length c] 29
  have q1 := new1 w (.int .i64 sz) (.slice a vs.length c) [] 29
  obtain ⟨ww, hww⟩ : ∃ ww, ww = winB rule sz vs := ⟨_, rfl⟩
  have HWB : Hid (∀ w', Ext w w' → Calls Tryz.prog 18 #[.int .i64 rule, .agg #[.int .i64 sz, .slice a vs.length c]] w' fun e w'' => e = .returned (.int .i64 ww) ∧ Ext w' w'') := fun w' hw' => by
    rw [hww]; exact winb_impl w' rule sz a c vs (hR.ext hw')
  by_cases h1 : ww < 0
  · have HF : Hid (absO rule sz vs = -1) := hide (by unfold absO; rw [← hww, if_pos h1])
    clear hww
    go_enter Tryz.func23, Tryz.ntmps23
    go_wp2_with (go_at_call 18; refine (HWB.out _ (by repeat (first | exact Ext.refl _ | assumption | refine Ext.alloc ?_ _ | refine Ext.drew ?_ | refine Ext.trans ?_ (by assumption)))).mono ?_; rintro e w1 ⟨rfl, hw1⟩; have q0 := Ext.keep (w' := w1) (by repeat (first | exact Ext.refl _ | assumption | refine Ext.alloc ?_ _ | refine Ext.drew ?_ | refine Ext.trans ?_ (by assumption))) q0; have q1 := Ext.keep (w' := w1) (by repeat (first | exact Ext.refl _ | assumption | refine Ext.alloc ?_ _ | refine Ext.drew ?_ | refine Ext.trans ?_ (by assumption))) q1)
    go_ret
    exact ⟨ret_int HF.out.symm, (by repeat (first | exact Ext.refl _ | assumption | refine Ext.alloc ?_ _ | refine Ext.drew ?_ | refine Ext.trans ?_ (by assumption)))⟩
  obtain ⟨h0, _, _⟩ := winB_pos (rule := rule) (sz := sz) (vs := vs) (by rw [← hww]; omega)
  have HF : Hid (absO rule sz vs = firstN vs.length (absQ rule sz vs ww)) := hide (by unfold absO; rw [← hww, if_neg h1])
  have H0 := hide h0
  have hvl := (prof_small h0).1
  clear hww h0
  go_enter Tryz.func23, Tryz.ntmps23
  go_wp2_with (go_at_call 18; refine (HWB.out _ (by repeat (first | exact Ext.refl _ | assumption | refine Ext.alloc ?_ _ | refine Ext.drew ?_ | refine Ext.trans ?_ (by assumption)))).mono ?_; rintro e w1 ⟨rfl, hw1⟩; have q0 := Ext.keep (w' := w1) (by repeat (first | exact Ext.refl _ | assumption | refine Ext.alloc ?_ _ | refine Ext.drew ?_ | refine Ext.trans ?_ (by assumption))) q0; have q1 := Ext.keep (w' := w1) (by repeat (first | exact Ext.refl _ | assumption | refine Ext.alloc ?_ _ | refine Ext.drew ?_ | refine Ext.trans ?_ (by assumption))) q1)
  have hw : Ext w w1 := (by repeat (first | exact Ext.refl _ | assumption | refine Ext.alloc ?_ _ | refine Ext.drew ?_ | refine Ext.trans ?_ (by assumption)))
  obtain ⟨wb, hwb⟩ : ∃ wb : World, wb = w1 := ⟨_, rfl⟩
  subst hwb
  have Q0 := q0
  have Q1 := q1
  clear hw1 HWB
  go_loopw [6, 7, 8, 17] (fun _ _ _ i wr => ∃ k : Nat, k ≤ vs.length ∧ i = .int .i64 k ∧ Hid (∀ j, j < k → absQ rule sz vs ww j = false) ∧ Ext wb wr) (fun _ _ _ i _ => vs.length - (intOf i).toNat)
  case atStart => exact ⟨0, Nat.zero_le _, rfl, fun j hj => absurd hj (by omega), Ext.refl _⟩
  case round =>
    obtain ⟨k, hk, rfl, hno, hwr⟩ := hrel
    by_cases hkt : k < vs.length
    · obtain ⟨x, hx⟩ := at_of_lt hkt
      obtain ⟨b, off, a', c', rfl, c0, c1, hc', hRx⟩ := (hR.ext (hw.trans hwr)).at_ hx
      have hrl := rk_len ((prof_small H0.out).2 x (List.mem_of_getElem? hx)).1
      have hgd : vs.getD k ([], 0) = x := by simp [List.getD, hx]
      have e0 := new0 wr (.slice a' x.1.length c') [.int .i64 x.2] 55
      have e1 := new1 wr (.slice a' x.1.length c') (.int .i64 x.2) [] 55
      have hE := Ext.new wr (.cells #[.slice a' x.1.length c', .int .i64 x.2] 55)
      have q0 := hE.keep (hwr.keep Q0)
      have q1 := hE.keep (hwr.keep Q1)
      have hk1 : k + 1 ≤ vs.length := by omega
      obtain ⟨W, hW⟩ : ∃ W, W = winB rule sz (vs.eraseIdx k) := ⟨_, rfl⟩
      have HMQ : Hid (absQ rule sz vs ww k = prefB x.1 W ww) := hide (by unfold absQ; rw [hgd, hW])
      have hRt := (hR.take k).ents
      have hRd := (hR.drop (n := off + (k + 1) * 2) (k + 1) c hc rfl).ents
      generalize hA : (if c = k + 1 then (some ⟨b, off, none⟩ : Option Addr) else some ⟨b, off + (k + 1) * 2, none⟩) = A at hRd
      obtain ⟨es1, h11, h12, h13, h14⟩ := hRt
      obtain ⟨es2, h21, h22, h23, h24⟩ := hRd
      have HES : Hid (vtsOf (es1 ++ es2) = vs.eraseIdx k) := hide (by
        rw [List.eraseIdx_eq_take_drop_succ, ← h11, ← h21]; simp [vtsOf])
      have HEL : Hid ((es1 ++ es2).length = (vs.eraseIdx k).length) := hide (by rw [← HES.out]; unfold vtsOf; rw [List.length_map])
      have HRE : Hid (ReadE w (es1 ++ es2)) := h13.app h23
      have l1 : es1.length = k := by rw [h12, List.length_take]; omega
      have l2 : es2.length = vs.length - (k + 1) := by rw [h22, List.length_drop]
      have HCC : Hid (∀ w' gx, Ext (wr.alloc (.cells #[.slice a' x.1.length c', .int .i64 x.2] 55)) w' → w'.cell? ⟨gx, 0, none⟩ = some (.slice (some ⟨b, off, none⟩) k c) → w'.cell? ⟨gx, 1, none⟩ = some (.slice A (vs.length - (k + 1)) (c - (k + 1))) → Calls Tryz.prog 61 #[.slice (some ⟨gx, 0, none⟩) 2 2] w' fun e w'' => ∃ v, e = .returned v ∧ RowsV w'' w'.heap.size v (es1 ++ es2) ∧ Ext w' w'') := fun w' gx hw' d0 d1 => by
        have hE2 := (hw.trans hwr).trans (hE.trans hw')
        exact catV_impl w' gx (some ⟨b, off, none⟩) A c (c - (k + 1)) es1 es2 (by rw [l1]; exact d0) (by rw [l2]; exact d1) (h14.ext hE2) (h24.ext hE2) (by omega)
      have HWI : Hid (∀ w' a3 n3 c3, n3 = (vs.eraseIdx k).length → RdV w' a3 (vs.eraseIdx k) → Calls Tryz.prog 18 #[.int .i64 rule, .agg #[.int .i64 sz, .slice a3 n3 c3]] w' fun e w'' => e = .returned (.int .i64 W) ∧ Ext w' w'') := fun w' a3 n3 c3 hn hR3 => by
        rw [hn, hW]; exact winb_impl w' rule sz a3 c3 _ hR3
      have HPF : Hid (∀ w', Ext wr w' → Calls Tryz.prog 62 #[.slice a' x.1.length c', .int .i64 W, .int .i64 ww] w' fun e w'' => e = .returned (.bool (prefB x.1 W ww)) ∧ Ext w' w'') := fun w' hw' => pref_impl w' a' c' x.1 W ww (hRx.ext hw') (by omega)
      have hsv0 : (wr.alloc (.cells #[.slice a' x.1.length c', .int .i64 x.2] 55)).heap.size = wr.heap.size + 1 := by simp
      have hwv : Ext wb (wr.alloc (.cells #[.slice a' x.1.length c', .int .i64 x.2] 55)) := hwr.trans hE
      have hgb : wb.heap.size ≤ wr.heap.size := hwr.size
      clear hx hgd hW hrl hRx h11 h12 h13 h14 h21 h22 h23 h24 l1 l2
      have i1 : (k : Int) + 1 ≤ (c : Int) := by omega
      have i2 : k ≤ c := by omega
      have i3 : k + 1 ≤ c := by omega
      have i7 : (k : Int) + 1 ≤ (vs.length : Int) := by omega
      have i5 : ((k : Int) + 1).toNat = k + 1 := by omega
      have i6 : (0 : Int) ≤ (k : Int) + 1 := by omega
      have HY : Hid (IntKind.i64.wrap ((k : Int) + 1) = (k : Int) + 1) := IntWalk.i64_in _ (by omega)
      cases hp : prefB x.1 W ww
      · rw [hp] at HPF HMQ
        have yk := HY.out
        go_wp2
        generalize wr.alloc (.cells #[.slice a' x.1.length c', .int .i64 x.2] 55) = wv at e0 e1 hE hwv hsv0 q0 q1 HCC ⊢
        clear c0 c1
        refine wp_region_Z [0,1,2,3,4,5,6,7,8,9,10,11,12,13,14,15] (by kernel_rfl) rfl (by kernel_rfl) ?_
        repeat' (refine wpZ_stepQ rfl (fun K hK => ?_)
                 go_simp
                 try (rw [if_neg (by intro h; simp [undef] at h)])
                 try split
                 all_goals
                   first
                   | (refine hK _ ?_
                      clear hK K)
                   | (apply Exists.intro
                      refine ⟨fun wq hwq => ?_, hK _ ?_⟩
                      · have hcq := hwq.cellS
                        go_simp
                        first
                        | exact ⟨Ext.refl _, rfl⟩
                      clear hK K))
        clear yk
        refine wpZ_stepF 14 [11, 12, 13, 15] rfl rfl (by kernel_rfl) rfl (by kernel_rfl) (fun K hK wq hwq => ?_) (fun K hK wq hwq => ?_)
        · go_simp
          refine ⟨(Ext.refl _).alloc _, hK _ _ ?_⟩
          clear hK K
          have g0 := new0 wq (.slice (some ⟨b, off, none⟩) k c) [.slice A (vs.length - (k + 1)) (c - (k + 1))] 27
          have g1 := new1 wq (.slice (some ⟨b, off, none⟩) k c) (.slice A (vs.length - (k + 1)) (c - (k + 1))) [] 27
          have hEq := hwq.alloc (.cells #[.slice (some ⟨b, off, none⟩) k c, .slice A (vs.length - (k + 1)) (c - (k + 1))] 27)
          obtain ⟨gq, hgq⟩ : ∃ gq : Nat, gq = wq.heap.size := ⟨_, rfl⟩
          rw [← hgq] at g0 g1 ⊢
          have hsv := hwq.size
          generalize wq.alloc (.cells #[.slice (some ⟨b, off, none⟩) k c, .slice A (vs.length - (k + 1)) (c - (k + 1))] 27) = wp at g0 g1 hEq ⊢
          clear hwq hgq
          refine wpZ_stepF 14 [12, 13, 15] rfl rfl (by kernel_rfl) rfl (by kernel_rfl) (fun K hK wq2 hwq2 => ?_) (fun K hK wq2 hwq2 => ?_)
          · go_simp
            refine (HCC.out wq2 gq (hEq.trans hwq2) (hwq2.keep g0) (hwq2.keep g1)).mono ?_
            rintro e w3 ⟨v, rfl, hl, hw3⟩
            refine ⟨hw3, hK _ _ ?_⟩
            clear hK K
            obtain ⟨av, nv, cv, rfl⟩ : ∃ av nv cv, v = .slice av nv cv := by
              rcases hl.val with ⟨h, _⟩ | ⟨g9, c9, h, _⟩ <;> exact ⟨_, _, _, h⟩
            have HLO := hide hl
            repeat' (refine wpZ_stepQ rfl (fun K hK => ?_)
                     go_simp
                     try (rw [if_neg (by intro h; simp [undef] at h)])
                     try split
                     all_goals
                       first
                       | (refine hK _ ?_
                          clear hK K)
                       | (apply Exists.intro
                          refine ⟨fun wq hwq => ?_, hK _ ?_⟩
                          · have hcq := hwq.cellS
                            go_simp
                            first
                            | exact ⟨Ext.refl _, rfl⟩
                          clear hK K))
            refine wpZ_stepS rfl (by kernel_rfl) (fun K hK wq3 hwq3 => ?_)
            go_simp
            refine ⟨(Ext.refl _).alloc _, hK _ _ ?_⟩
            clear hK K
            have hBp := BlkF.new wq3 #[.int .i64 0, .slice none 0 0] 29
            obtain ⟨p, hp⟩ : ∃ p : Nat, p = wq3.heap.size := ⟨_, rfl⟩
            have hEv := (((hEq.trans hwq2).trans hw3).trans hwq3).alloc (.cells #[.int .i64 0, .slice none 0 0] 29)
            have hl := (hl.ext hwq3).ext (Ext.new wq3 (.cells #[.int .i64 0, .slice none 0 0] 29))
            have hne : ∀ q, (Value.slice av nv cv).ownBlock = some q → q ≠ p := fun q hq => by
              have h1 := (World.ownsRow.lt HLO.out q hq).2
              have h2 := hwq3.size
              omega
            have hpv : wv.heap.size ≤ p := by
              have h1 := (((hEq.trans hwq2).trans hw3).trans hwq3).size
              omega
            rw [← hp] at hBp ⊢
            generalize wq3.alloc (.cells #[.int .i64 0, .slice none 0 0] 29) = wn at hBp hEv hl ⊢
            clear hwq3 hwq2 hw3 hEq g0 g1 hp HLO hsv
            repeat' (refine wpZ_stepQ rfl (fun K hK => ?_)
                     go_simp
                     try (rw [if_neg (by intro h; simp [undef] at h)])
                     try split
                     all_goals
                       first
                       | (refine hK _ ?_
                          clear hK K)
                       | (apply Exists.intro
                          refine ⟨fun wq hwq => ?_, hK _ ?_⟩
                          · have hcq := hwq.cellS
                            go_simp
                            first
                            | exact ⟨Ext.refl _, rfl⟩
                          clear hK K))
            refine wpZ_stepL rfl (by kernel_rfl) (by kernel_rfl) (by kernel_rfl) (fun K hK wz hwz => ?_)
            have hBz := hBp.ext hwz
            have hlz := hl.ext hwz
            have b0 := hBz.cell 0 (by simp)
            have b1 := hBz.cell 1 (by simp)
            have y0 := hBz.fr 0
            have y1 := hBz.fr 1
            have hEz : Ext wv wz := hEv.trans hwz
            have e0z := hEz.keep e0
            have e1z := hEz.keep e1
            go_simp
            refine hK _ _ ?_
            clear hK K
            have hO : Only p wz ((wz.setCell ⟨p, 0, none⟩ (.int .i64 sz)).setCell ⟨p, 1, none⟩ (.slice av nv cv)) := ((Only.refl p wz).setCell 0 _).setCell 1 _
            have hBs := (hBz.set 0 (by simp) (.int .i64 sz)).set 1 (by simp) (.slice av nv cv)
            have hls := World.ownsRow.kept hlz hO (by
              cases hv : (Value.slice av nv cv).ownBlock with
              | none => exact .inl rfl
              | some q =>
                refine .inr (fun e => ?_)
                injection e with e
                exact hne q hv e)
            have hEs : Ext wb ((wz.setCell ⟨p, 0, none⟩ (.int .i64 sz)).setCell ⟨p, 1, none⟩ (.slice av nv cv)) := Only.ext (hwv.trans hEz) hO (by omega)
            have hEr : Ext wr ((wz.setCell ⟨p, 0, none⟩ (.int .i64 sz)).setCell ⟨p, 1, none⟩ (.slice av nv cv)) := Only.ext (hE.trans hEz) hO (by have := hE.size; omega)
            have e0s := hO.keep (p := ⟨wr.heap.size, 0, none⟩) (by dsimp only; omega) e0z
            have e1s := hO.keep (p := ⟨wr.heap.size, 1, none⟩) (by dsimp only; omega) e1z
            generalize (wz.setCell ⟨p, 0, none⟩ (.int .i64 sz)).setCell ⟨p, 1, none⟩ (.slice av nv cv) = w5 at hO hBs hls hEs hEr e0s e1s ⊢
            have f0 := hBs.cell 0 (by simp)
            have f1 := hBs.cell 1 (by simp)
            rw [if_neg (by omega), if_pos rfl] at f0
            rw [if_pos rfl] at f1
            have hRn := RowsV.rdR hls (HRE.out.ext (hw.trans hEs))
            rw [HES.out] at hRn
            have hnv := (RowsV.lenEq hls).1
            rw [HEL.out] at hnv
            have HW := hide (fun w' (hw' : Ext w5 w') => HWI.out w' av nv cv hnv (hRn.ext hw'))
            have HPG := hide (fun w' (hw' : Ext w5 w') => HPF.out w' (hEr.trans hw'))
            clear hBs hls hRn hnv hO hBz hlz hBp hl hne hEz hwz e0z e1z b0 b1 y0 y1 hEv
            go_wp2
            refine wp_region_O [0,1,2,3,5,4,6] (by kernel_rfl) rfl (by kernel_rfl) ?_
            repeat' (refine wpO_stepQ rfl (fun K hK => ?_)
                     go_simp
                     try (rw [if_neg (by intro h; simp [undef] at h)])
                     try split
                     all_goals
                       first
                       | (refine hK _ ?_
                          clear hK K)
                       | (apply Exists.intro
                          refine ⟨fun wq hwq => ?_, hK _ ?_⟩
                          · have hcq := hwq.cellS
                            go_simp
                            first
                            | exact ⟨Ext.refl _, rfl⟩
                          clear hK K))
            repeat' (refine wpO_stepQ rfl (fun K hK => ?_)
                     go_simp
                     try (rw [if_neg (by intro h; simp [undef] at h)])
                     try split
                     all_goals
                       first
                       | (refine hK _ ?_
                          clear hK K)
                       | (apply Exists.intro
                          refine ⟨fun wq hwq => ?_, hK _ ?_⟩
                          · have hcq := hwq.cellS
                            go_simp
                            first
                            | exact ⟨Ext.refl _, rfl⟩
                            | exact ⟨Ext.refl _, HW.out _ (by repeat (first | exact Ext.refl _ | assumption | refine Ext.alloc ?_ _ | refine Ext.drew ?_ | refine Ext.trans ?_ (by assumption)))⟩
                          clear hK K))
            repeat' (refine wpO_stepQ rfl (fun K hK => ?_)
                     go_simp
                     try (rw [if_neg (by intro h; simp [undef] at h)])
                     try split
                     all_goals
                       first
                       | (refine hK _ ?_
                          clear hK K)
                       | (apply Exists.intro
                          refine ⟨fun wq hwq => ?_, hK _ ?_⟩
                          · have hcq := hwq.cellS
                            go_simp
                            first
                            | exact ⟨Ext.refl _, rfl⟩
                            | exact ⟨Ext.refl _, HPG.out _ (by repeat (first | exact Ext.refl _ | assumption | refine Ext.alloc ?_ _ | refine Ext.drew ?_ | refine Ext.trans ?_ (by assumption)))⟩
                          clear hK K))
            refine wpO_nil (fun wy hwy => ?_)
            go_wp2
            exact ⟨⟨k + 1, hk1, by go_num, none_succ hno.out HMQ.out, hEs.trans hwy⟩, by simp [intOf]; omega⟩
          · go_simp
            refine ⟨(Ext.refl _).alloc _, hK _ _ ?_⟩
            clear hK K
            have hBp := BlkF.new wq2 #[.int .i64 0, .slice none 0 0] 29
            obtain ⟨p, hp⟩ : ∃ p : Nat, p = wq2.heap.size := ⟨_, rfl⟩
            have hE3 := hwq2.alloc (.cells #[.int .i64 0, .slice none 0 0] 29)
            have hsp : p < (wq2.alloc (.cells #[.int .i64 0, .slice none 0 0] 29)).heap.size := by rw [hp]; simp
            have hpv : wv.heap.size ≤ p := by
              have h1 := (hEq.trans hwq2).size
              omega
            rw [← hp] at hBp ⊢
            generalize wq2.alloc (.cells #[.int .i64 0, .slice none 0 0] 29) = wn at hBp hE3 hsp ⊢
            have hEq := hEq.trans hE3
            have g0 := hE3.keep g0
            have g1 := hE3.keep g1
            clear hwq2 hp hE3
            refine wpZ_stepS rfl (by kernel_rfl) (fun K hK wq2 hwq2 => ?_)
            go_simp
            refine (HCC.out wq2 gq (hEq.trans hwq2) (hwq2.keep g0) (hwq2.keep g1)).mono ?_
            rintro e w3 ⟨v, rfl, hl, hw3⟩
            refine ⟨hw3, hK _ _ ?_⟩
            clear hK K
            obtain ⟨av, nv, cv, rfl⟩ : ∃ av nv cv, v = .slice av nv cv := by
              rcases hl.val with ⟨h, _⟩ | ⟨g9, c9, h, _⟩ <;> exact ⟨_, _, _, h⟩
            have hEv := (hEq.trans hwq2).trans hw3
            have hne : ∀ q, (Value.slice av nv cv).ownBlock = some q → q ≠ p := fun q hq => by
              have h1 := (World.ownsRow.lt hl q hq).1
              have h2 := hwq2.size
              omega
            have hBp := (hBp.ext hwq2).ext hw3
            clear hwq2 hw3 hEq g0 g1 hsv hsp
            repeat' (refine wpZ_stepQ rfl (fun K hK => ?_)
                     go_simp
                     try (rw [if_neg (by intro h; simp [undef] at h)])
                     try split
                     all_goals
                       first
                       | (refine hK _ ?_
                          clear hK K)
                       | (apply Exists.intro
                          refine ⟨fun wq hwq => ?_, hK _ ?_⟩
                          · have hcq := hwq.cellS
                            go_simp
                            first
                            | exact ⟨Ext.refl _, rfl⟩
                          clear hK K))
            refine wpZ_stepL rfl (by kernel_rfl) (by kernel_rfl) (by kernel_rfl) (fun K hK wz hwz => ?_)
            have hBz := hBp.ext hwz
            have hlz := hl.ext hwz
            have b0 := hBz.cell 0 (by simp)
            have b1 := hBz.cell 1 (by simp)
            have y0 := hBz.fr 0
            have y1 := hBz.fr 1
            have hEz : Ext wv wz := hEv.trans hwz
            have e0z := hEz.keep e0
            have e1z := hEz.keep e1
            go_simp
            refine hK _ _ ?_
            clear hK K
            have hO : Only p wz ((wz.setCell ⟨p, 0, none⟩ (.int .i64 sz)).setCell ⟨p, 1, none⟩ (.slice av nv cv)) := ((Only.refl p wz).setCell 0 _).setCell 1 _
            have hBs := (hBz.set 0 (by simp) (.int .i64 sz)).set 1 (by simp) (.slice av nv cv)
            have hls := World.ownsRow.kept hlz hO (by
              cases hv : (Value.slice av nv cv).ownBlock with
              | none => exact .inl rfl
              | some q =>
                refine .inr (fun e => ?_)
                injection e with e
                exact hne q hv e)
            have hEs : Ext wb ((wz.setCell ⟨p, 0, none⟩ (.int .i64 sz)).setCell ⟨p, 1, none⟩ (.slice av nv cv)) := Only.ext (hwv.trans hEz) hO (by omega)
            have hEr : Ext wr ((wz.setCell ⟨p, 0, none⟩ (.int .i64 sz)).setCell ⟨p, 1, none⟩ (.slice av nv cv)) := Only.ext (hE.trans hEz) hO (by have := hE.size; omega)
            have e0s := hO.keep (p := ⟨wr.heap.size, 0, none⟩) (by dsimp only; omega) e0z
            have e1s := hO.keep (p := ⟨wr.heap.size, 1, none⟩) (by dsimp only; omega) e1z
            generalize (wz.setCell ⟨p, 0, none⟩ (.int .i64 sz)).setCell ⟨p, 1, none⟩ (.slice av nv cv) = w5 at hO hBs hls hEs hEr e0s e1s ⊢
            have f0 := hBs.cell 0 (by simp)
            have f1 := hBs.cell 1 (by simp)
            rw [if_neg (by omega), if_pos rfl] at f0
            rw [if_pos rfl] at f1
            have hRn := RowsV.rdR hls (HRE.out.ext (hw.trans hEs))
            rw [HES.out] at hRn
            have hnv := (RowsV.lenEq hls).1
            rw [HEL.out] at hnv
            have HW := hide (fun w' (hw' : Ext w5 w') => HWI.out w' av nv cv hnv (hRn.ext hw'))
            have HPG := hide (fun w' (hw' : Ext w5 w') => HPF.out w' (hEr.trans hw'))
            clear hBs hls hRn hnv hO hBz hlz hBp hl hne hEz hwz e0z e1z b0 b1 y0 y1 hEv
            go_wp2
            refine wp_region_O [0,1,2,3,5,4,6] (by kernel_rfl) rfl (by kernel_rfl) ?_
            repeat' (refine wpO_stepQ rfl (fun K hK => ?_)
                     go_simp
                     try (rw [if_neg (by intro h; simp [undef] at h)])
                     try split
                     all_goals
                       first
                       | (refine hK _ ?_
                          clear hK K)
                       | (apply Exists.intro
                          refine ⟨fun wq hwq => ?_, hK _ ?_⟩
                          · have hcq := hwq.cellS
                            go_simp
                            first
                            | exact ⟨Ext.refl _, rfl⟩
                          clear hK K))
            repeat' (refine wpO_stepQ rfl (fun K hK => ?_)
                     go_simp
                     try (rw [if_neg (by intro h; simp [undef] at h)])
                     try split
                     all_goals
                       first
                       | (refine hK _ ?_
                          clear hK K)
                       | (apply Exists.intro
                          refine ⟨fun wq hwq => ?_, hK _ ?_⟩
                          · have hcq := hwq.cellS
                            go_simp
                            first
                            | exact ⟨Ext.refl _, rfl⟩
                            | exact ⟨Ext.refl _, HW.out _ (by repeat (first | exact Ext.refl _ | assumption | refine Ext.alloc ?_ _ | refine Ext.drew ?_ | refine Ext.trans ?_ (by assumption)))⟩
                          clear hK K))
            repeat' (refine wpO_stepQ rfl (fun K hK => ?_)
                     go_simp
                     try (rw [if_neg (by intro h; simp [undef] at h)])
                     try split
                     all_goals
                       first
                       | (refine hK _ ?_
                          clear hK K)
                       | (apply Exists.intro
                          refine ⟨fun wq hwq => ?_, hK _ ?_⟩
                          · have hcq := hwq.cellS
                            go_simp
                            first
                            | exact ⟨Ext.refl _, rfl⟩
                            | exact ⟨Ext.refl _, HPG.out _ (by repeat (first | exact Ext.refl _ | assumption | refine Ext.alloc ?_ _ | refine Ext.drew ?_ | refine Ext.trans ?_ (by assumption)))⟩
                          clear hK K))
            refine wpO_nil (fun wy hwy => ?_)
            go_wp2
            exact ⟨⟨k + 1, hk1, by go_num, none_succ hno.out HMQ.out, hEs.trans hwy⟩, by simp [intOf]; omega⟩
        · go_simp
          refine ⟨(Ext.refl _).alloc _, hK _ _ ?_⟩
          clear hK K
          have hBp := BlkF.new wq #[.int .i64 0, .slice none 0 0] 29
          obtain ⟨p, hp⟩ : ∃ p : Nat, p = wq.heap.size := ⟨_, rfl⟩
          have hE3 := hwq.alloc (.cells #[.int .i64 0, .slice none 0 0] 29)
          have hsp : p < (wq.alloc (.cells #[.int .i64 0, .slice none 0 0] 29)).heap.size := by rw [hp]; simp
          have hpv : wv.heap.size ≤ p := by
            have h1 := hwq.size
            omega
          rw [← hp] at hBp ⊢
          generalize wq.alloc (.cells #[.int .i64 0, .slice none 0 0] 29) = wn at hBp hE3 hsp ⊢
          clear hwq hp
          refine wpZ_stepS rfl (by kernel_rfl) (fun K hK wq hwq => ?_)
          go_simp
          refine ⟨(Ext.refl _).alloc _, hK _ _ ?_⟩
          clear hK K
          have g0 := new0 wq (.slice (some ⟨b, off, none⟩) k c) [.slice A (vs.length - (k + 1)) (c - (k + 1))] 27
          have g1 := new1 wq (.slice (some ⟨b, off, none⟩) k c) (.slice A (vs.length - (k + 1)) (c - (k + 1))) [] 27
          have hEq := (hE3.trans hwq).alloc (.cells #[.slice (some ⟨b, off, none⟩) k c, .slice A (vs.length - (k + 1)) (c - (k + 1))] 27)
          obtain ⟨gq, hgq⟩ : ∃ gq : Nat, gq = wq.heap.size := ⟨_, rfl⟩
          rw [← hgq] at g0 g1 ⊢
          have hsv := hwq.size
          have hBp := (hBp.ext hwq).ext (Ext.new wq (.cells #[.slice (some ⟨b, off, none⟩) k c, .slice A (vs.length - (k + 1)) (c - (k + 1))] 27))
          have hsp2 : p < (wq.alloc (.cells #[.slice (some ⟨b, off, none⟩) k c, .slice A (vs.length - (k + 1)) (c - (k + 1))] 27)).heap.size := by simp; omega
          generalize wq.alloc (.cells #[.slice (some ⟨b, off, none⟩) k c, .slice A (vs.length - (k + 1)) (c - (k + 1))] 27) = wp at g0 g1 hEq hBp hsp2 ⊢
          clear hgq
          clear hwq hE3
          refine wpZ_stepS rfl (by kernel_rfl) (fun K hK wq2 hwq2 => ?_)
          go_simp
          refine (HCC.out wq2 gq (hEq.trans hwq2) (hwq2.keep g0) (hwq2.keep g1)).mono ?_
          rintro e w3 ⟨v, rfl, hl, hw3⟩
          refine ⟨hw3, hK _ _ ?_⟩
          clear hK K
          obtain ⟨av, nv, cv, rfl⟩ : ∃ av nv cv, v = .slice av nv cv := by
            rcases hl.val with ⟨h, _⟩ | ⟨g9, c9, h, _⟩ <;> exact ⟨_, _, _, h⟩
          have hEv := (hEq.trans hwq2).trans hw3
          have hne : ∀ q, (Value.slice av nv cv).ownBlock = some q → q ≠ p := fun q hq => by
            have h1 := (World.ownsRow.lt hl q hq).1
            have h2 := hwq2.size
            omega
          have hBp := (hBp.ext hwq2).ext hw3
          clear hwq2 hw3 hEq g0 g1 hsv hsp hsp2
          repeat' (refine wpZ_stepQ rfl (fun K hK => ?_)
                   go_simp
                   try (rw [if_neg (by intro h; simp [undef] at h)])
                   try split
                   all_goals
                     first
                     | (refine hK _ ?_
                        clear hK K)
                     | (apply Exists.intro
                        refine ⟨fun wq hwq => ?_, hK _ ?_⟩
                        · have hcq := hwq.cellS
                          go_simp
                          first
                          | exact ⟨Ext.refl _, rfl⟩
                        clear hK K))
          refine wpZ_stepL rfl (by kernel_rfl) (by kernel_rfl) (by kernel_rfl) (fun K hK wz hwz => ?_)
          have hBz := hBp.ext hwz
          have hlz := hl.ext hwz
          have b0 := hBz.cell 0 (by simp)
          have b1 := hBz.cell 1 (by simp)
          have y0 := hBz.fr 0
          have y1 := hBz.fr 1
          have hEz : Ext wv wz := hEv.trans hwz
          have e0z := hEz.keep e0
          have e1z := hEz.keep e1
          go_simp
          refine hK _ _ ?_
          clear hK K
          have hO : Only p wz ((wz.setCell ⟨p, 0, none⟩ (.int .i64 sz)).setCell ⟨p, 1, none⟩ (.slice av nv cv)) := ((Only.refl p wz).setCell 0 _).setCell 1 _
          have hBs := (hBz.set 0 (by simp) (.int .i64 sz)).set 1 (by simp) (.slice av nv cv)
          have hls := World.ownsRow.kept hlz hO (by
            cases hv : (Value.slice av nv cv).ownBlock with
            | none => exact .inl rfl
            | some q =>
              refine .inr (fun e => ?_)
              injection e with e
              exact hne q hv e)
          have hEs : Ext wb ((wz.setCell ⟨p, 0, none⟩ (.int .i64 sz)).setCell ⟨p, 1, none⟩ (.slice av nv cv)) := Only.ext (hwv.trans hEz) hO (by omega)
          have hEr : Ext wr ((wz.setCell ⟨p, 0, none⟩ (.int .i64 sz)).setCell ⟨p, 1, none⟩ (.slice av nv cv)) := Only.ext (hE.trans hEz) hO (by have := hE.size; omega)
          have e0s := hO.keep (p := ⟨wr.heap.size, 0, none⟩) (by dsimp only; omega) e0z
          have e1s := hO.keep (p := ⟨wr.heap.size, 1, none⟩) (by dsimp only; omega) e1z
          generalize (wz.setCell ⟨p, 0, none⟩ (.int .i64 sz)).setCell ⟨p, 1, none⟩ (.slice av nv cv) = w5 at hO hBs hls hEs hEr e0s e1s ⊢
          have f0 := hBs.cell 0 (by simp)
          have f1 := hBs.cell 1 (by simp)
          rw [if_neg (by omega), if_pos rfl] at f0
          rw [if_pos rfl] at f1
          have hRn := RowsV.rdR hls (HRE.out.ext (hw.trans hEs))
          rw [HES.out] at hRn
          have hnv := (RowsV.lenEq hls).1
          rw [HEL.out] at hnv
          have HW := hide (fun w' (hw' : Ext w5 w') => HWI.out w' av nv cv hnv (hRn.ext hw'))
          have HPG := hide (fun w' (hw' : Ext w5 w') => HPF.out w' (hEr.trans hw'))
          clear hBs hls hRn hnv hO hBz hlz hBp hl hne hEz hwz e0z e1z b0 b1 y0 y1 hEv
          go_wp2
          refine wp_region_O [0,1,2,3,5,4,6] (by kernel_rfl) rfl (by kernel_rfl) ?_
          repeat' (refine wpO_stepQ rfl (fun K hK => ?_)
                   go_simp
                   try (rw [if_neg (by intro h; simp [undef] at h)])
                   try split
                   all_goals
                     first
                     | (refine hK _ ?_
                        clear hK K)
                     | (apply Exists.intro
                        refine ⟨fun wq hwq => ?_, hK _ ?_⟩
                        · have hcq := hwq.cellS
                          go_simp
                          first
                          | exact ⟨Ext.refl _, rfl⟩
                        clear hK K))
          repeat' (refine wpO_stepQ rfl (fun K hK => ?_)
                   go_simp
                   try (rw [if_neg (by intro h; simp [undef] at h)])
                   try split
                   all_goals
                     first
                     | (refine hK _ ?_
                        clear hK K)
                     | (apply Exists.intro
                        refine ⟨fun wq hwq => ?_, hK _ ?_⟩
                        · have hcq := hwq.cellS
                          go_simp
                          first
                          | exact ⟨Ext.refl _, rfl⟩
                          | exact ⟨Ext.refl _, HW.out _ (by repeat (first | exact Ext.refl _ | assumption | refine Ext.alloc ?_ _ | refine Ext.drew ?_ | refine Ext.trans ?_ (by assumption)))⟩
                        clear hK K))
          repeat' (refine wpO_stepQ rfl (fun K hK => ?_)
                   go_simp
                   try (rw [if_neg (by intro h; simp [undef] at h)])
                   try split
                   all_goals
                     first
                     | (refine hK _ ?_
                        clear hK K)
                     | (apply Exists.intro
                        refine ⟨fun wq hwq => ?_, hK _ ?_⟩
                        · have hcq := hwq.cellS
                          go_simp
                          first
                          | exact ⟨Ext.refl _, rfl⟩
                          | exact ⟨Ext.refl _, HPG.out _ (by repeat (first | exact Ext.refl _ | assumption | refine Ext.alloc ?_ _ | refine Ext.drew ?_ | refine Ext.trans ?_ (by assumption)))⟩
                        clear hK K))
          refine wpO_nil (fun wy hwy => ?_)
          go_wp2
          exact ⟨⟨k + 1, hk1, by go_num, none_succ hno.out HMQ.out, hEs.trans hwy⟩, by simp [intOf]; omega⟩
      · rw [hp] at HPF HMQ
        have yk := HY.out
        go_wp2
        generalize wr.alloc (.cells #[.slice a' x.1.length c', .int .i64 x.2] 55) = wv at e0 e1 hE hwv hsv0 q0 q1 HCC ⊢
        clear c0 c1
        refine wp_region_Z [0,1,2,3,4,5,6,7,8,9,10,11,12,13,14,15] (by kernel_rfl) rfl (by kernel_rfl) ?_
        repeat' (refine wpZ_stepQ rfl (fun K hK => ?_)
                 go_simp
                 try (rw [if_neg (by intro h; simp [undef] at h)])
                 try split
                 all_goals
                   first
                   | (refine hK _ ?_
                      clear hK K)
                   | (apply Exists.intro
                      refine ⟨fun wq hwq => ?_, hK _ ?_⟩
                      · have hcq := hwq.cellS
                        go_simp
                        first
                        | exact ⟨Ext.refl _, rfl⟩
                      clear hK K))
        clear yk
        refine wpZ_stepF 14 [11, 12, 13, 15] rfl rfl (by kernel_rfl) rfl (by kernel_rfl) (fun K hK wq hwq => ?_) (fun K hK wq hwq => ?_)
        · go_simp
          refine ⟨(Ext.refl _).alloc _, hK _ _ ?_⟩
          clear hK K
          have g0 := new0 wq (.slice (some ⟨b, off, none⟩) k c) [.slice A (vs.length - (k + 1)) (c - (k + 1))] 27
          have g1 := new1 wq (.slice (some ⟨b, off, none⟩) k c) (.slice A (vs.length - (k + 1)) (c - (k + 1))) [] 27
          have hEq := hwq.alloc (.cells #[.slice (some ⟨b, off, none⟩) k c, .slice A (vs.length - (k + 1)) (c - (k + 1))] 27)
          obtain ⟨gq, hgq⟩ : ∃ gq : Nat, gq = wq.heap.size := ⟨_, rfl⟩
          rw [← hgq] at g0 g1 ⊢
          have hsv := hwq.size
          generalize wq.alloc (.cells #[.slice (some ⟨b, off, none⟩) k c, .slice A (vs.length - (k + 1)) (c - (k + 1))] 27) = wp at g0 g1 hEq ⊢
          clear hwq hgq
          refine wpZ_stepF 14 [12, 13, 15] rfl rfl (by kernel_rfl) rfl (by kernel_rfl) (fun K hK wq2 hwq2 => ?_) (fun K hK wq2 hwq2 => ?_)
          · go_simp
            refine (HCC.out wq2 gq (hEq.trans hwq2) (hwq2.keep g0) (hwq2.keep g1)).mono ?_
            rintro e w3 ⟨v, rfl, hl, hw3⟩
            refine ⟨hw3, hK _ _ ?_⟩
            clear hK K
            obtain ⟨av, nv, cv, rfl⟩ : ∃ av nv cv, v = .slice av nv cv := by
              rcases hl.val with ⟨h, _⟩ | ⟨g9, c9, h, _⟩ <;> exact ⟨_, _, _, h⟩
            have HLO := hide hl
            repeat' (refine wpZ_stepQ rfl (fun K hK => ?_)
                     go_simp
                     try (rw [if_neg (by intro h; simp [undef] at h)])
                     try split
                     all_goals
                       first
                       | (refine hK _ ?_
                          clear hK K)
                       | (apply Exists.intro
                          refine ⟨fun wq hwq => ?_, hK _ ?_⟩
                          · have hcq := hwq.cellS
                            go_simp
                            first
                            | exact ⟨Ext.refl _, rfl⟩
                          clear hK K))
            refine wpZ_stepS rfl (by kernel_rfl) (fun K hK wq3 hwq3 => ?_)
            go_simp
            refine ⟨(Ext.refl _).alloc _, hK _ _ ?_⟩
            clear hK K
            have hBp := BlkF.new wq3 #[.int .i64 0, .slice none 0 0] 29
            obtain ⟨p, hp⟩ : ∃ p : Nat, p = wq3.heap.size := ⟨_, rfl⟩
            have hEv := (((hEq.trans hwq2).trans hw3).trans hwq3).alloc (.cells #[.int .i64 0, .slice none 0 0] 29)
            have hl := (hl.ext hwq3).ext (Ext.new wq3 (.cells #[.int .i64 0, .slice none 0 0] 29))
            have hne : ∀ q, (Value.slice av nv cv).ownBlock = some q → q ≠ p := fun q hq => by
              have h1 := (World.ownsRow.lt HLO.out q hq).2
              have h2 := hwq3.size
              omega
            have hpv : wv.heap.size ≤ p := by
              have h1 := (((hEq.trans hwq2).trans hw3).trans hwq3).size
              omega
            rw [← hp] at hBp ⊢
            generalize wq3.alloc (.cells #[.int .i64 0, .slice none 0 0] 29) = wn at hBp hEv hl ⊢
            clear hwq3 hwq2 hw3 hEq g0 g1 hp HLO hsv
            repeat' (refine wpZ_stepQ rfl (fun K hK => ?_)
                     go_simp
                     try (rw [if_neg (by intro h; simp [undef] at h)])
                     try split
                     all_goals
                       first
                       | (refine hK _ ?_
                          clear hK K)
                       | (apply Exists.intro
                          refine ⟨fun wq hwq => ?_, hK _ ?_⟩
                          · have hcq := hwq.cellS
                            go_simp
                            first
                            | exact ⟨Ext.refl _, rfl⟩
                          clear hK K))
            refine wpZ_stepL rfl (by kernel_rfl) (by kernel_rfl) (by kernel_rfl) (fun K hK wz hwz => ?_)
            have hBz := hBp.ext hwz
            have hlz := hl.ext hwz
            have b0 := hBz.cell 0 (by simp)
            have b1 := hBz.cell 1 (by simp)
            have y0 := hBz.fr 0
            have y1 := hBz.fr 1
            have hEz : Ext wv wz := hEv.trans hwz
            have e0z := hEz.keep e0
            have e1z := hEz.keep e1
            go_simp
            refine hK _ _ ?_
            clear hK K
            have hO : Only p wz ((wz.setCell ⟨p, 0, none⟩ (.int .i64 sz)).setCell ⟨p, 1, none⟩ (.slice av nv cv)) := ((Only.refl p wz).setCell 0 _).setCell 1 _
            have hBs := (hBz.set 0 (by simp) (.int .i64 sz)).set 1 (by simp) (.slice av nv cv)
            have hls := World.ownsRow.kept hlz hO (by
              cases hv : (Value.slice av nv cv).ownBlock with
              | none => exact .inl rfl
              | some q =>
                refine .inr (fun e => ?_)
                injection e with e
                exact hne q hv e)
            have hEs : Ext wb ((wz.setCell ⟨p, 0, none⟩ (.int .i64 sz)).setCell ⟨p, 1, none⟩ (.slice av nv cv)) := Only.ext (hwv.trans hEz) hO (by omega)
            have hEr : Ext wr ((wz.setCell ⟨p, 0, none⟩ (.int .i64 sz)).setCell ⟨p, 1, none⟩ (.slice av nv cv)) := Only.ext (hE.trans hEz) hO (by have := hE.size; omega)
            have e0s := hO.keep (p := ⟨wr.heap.size, 0, none⟩) (by dsimp only; omega) e0z
            have e1s := hO.keep (p := ⟨wr.heap.size, 1, none⟩) (by dsimp only; omega) e1z
            generalize (wz.setCell ⟨p, 0, none⟩ (.int .i64 sz)).setCell ⟨p, 1, none⟩ (.slice av nv cv) = w5 at hO hBs hls hEs hEr e0s e1s ⊢
            have f0 := hBs.cell 0 (by simp)
            have f1 := hBs.cell 1 (by simp)
            rw [if_neg (by omega), if_pos rfl] at f0
            rw [if_pos rfl] at f1
            have hRn := RowsV.rdR hls (HRE.out.ext (hw.trans hEs))
            rw [HES.out] at hRn
            have hnv := (RowsV.lenEq hls).1
            rw [HEL.out] at hnv
            have HW := hide (fun w' (hw' : Ext w5 w') => HWI.out w' av nv cv hnv (hRn.ext hw'))
            have HPG := hide (fun w' (hw' : Ext w5 w') => HPF.out w' (hEr.trans hw'))
            clear hBs hls hRn hnv hO hBz hlz hBp hl hne hEz hwz e0z e1z b0 b1 y0 y1 hEv
            go_wp2
            refine wp_region_O [0,1,2,3,5,4,6] (by kernel_rfl) rfl (by kernel_rfl) ?_
            repeat' (refine wpO_stepQ rfl (fun K hK => ?_)
                     go_simp
                     try (rw [if_neg (by intro h; simp [undef] at h)])
                     try split
                     all_goals
                       first
                       | (refine hK _ ?_
                          clear hK K)
                       | (apply Exists.intro
                          refine ⟨fun wq hwq => ?_, hK _ ?_⟩
                          · have hcq := hwq.cellS
                            go_simp
                            first
                            | exact ⟨Ext.refl _, rfl⟩
                          clear hK K))
            repeat' (refine wpO_stepQ rfl (fun K hK => ?_)
                     go_simp
                     try (rw [if_neg (by intro h; simp [undef] at h)])
                     try split
                     all_goals
                       first
                       | (refine hK _ ?_
                          clear hK K)
                       | (apply Exists.intro
                          refine ⟨fun wq hwq => ?_, hK _ ?_⟩
                          · have hcq := hwq.cellS
                            go_simp
                            first
                            | exact ⟨Ext.refl _, rfl⟩
                            | exact ⟨Ext.refl _, HW.out _ (by repeat (first | exact Ext.refl _ | assumption | refine Ext.alloc ?_ _ | refine Ext.drew ?_ | refine Ext.trans ?_ (by assumption)))⟩
                          clear hK K))
            repeat' (refine wpO_stepQ rfl (fun K hK => ?_)
                     go_simp
                     try (rw [if_neg (by intro h; simp [undef] at h)])
                     try split
                     all_goals
                       first
                       | (refine hK _ ?_
                          clear hK K)
                       | (apply Exists.intro
                          refine ⟨fun wq hwq => ?_, hK _ ?_⟩
                          · have hcq := hwq.cellS
                            go_simp
                            first
                            | exact ⟨Ext.refl _, rfl⟩
                            | exact ⟨Ext.refl _, HPG.out _ (by repeat (first | exact Ext.refl _ | assumption | refine Ext.alloc ?_ _ | refine Ext.drew ?_ | refine Ext.trans ?_ (by assumption)))⟩
                          clear hK K))
            refine wpO_nil (fun wy hwy => ?_)
            go_wp2
            go_ret
            exact ⟨ret_int (by rw [HF.out, firstN_some hkt hno.out HMQ.out]), hw.trans (hEs.trans hwy)⟩
          · go_simp
            refine ⟨(Ext.refl _).alloc _, hK _ _ ?_⟩
            clear hK K
            have hBp := BlkF.new wq2 #[.int .i64 0, .slice none 0 0] 29
            obtain ⟨p, hp⟩ : ∃ p : Nat, p = wq2.heap.size := ⟨_, rfl⟩
            have hE3 := hwq2.alloc (.cells #[.int .i64 0, .slice none 0 0] 29)
            have hsp : p < (wq2.alloc (.cells #[.int .i64 0, .slice none 0 0] 29)).heap.size := by rw [hp]; simp
            have hpv : wv.heap.size ≤ p := by
              have h1 := (hEq.trans hwq2).size
              omega
            rw [← hp] at hBp ⊢
            generalize wq2.alloc (.cells #[.int .i64 0, .slice none 0 0] 29) = wn at hBp hE3 hsp ⊢
            have hEq := hEq.trans hE3
            have g0 := hE3.keep g0
            have g1 := hE3.keep g1
            clear hwq2 hp hE3
            refine wpZ_stepS rfl (by kernel_rfl) (fun K hK wq2 hwq2 => ?_)
            go_simp
            refine (HCC.out wq2 gq (hEq.trans hwq2) (hwq2.keep g0) (hwq2.keep g1)).mono ?_
            rintro e w3 ⟨v, rfl, hl, hw3⟩
            refine ⟨hw3, hK _ _ ?_⟩
            clear hK K
            obtain ⟨av, nv, cv, rfl⟩ : ∃ av nv cv, v = .slice av nv cv := by
              rcases hl.val with ⟨h, _⟩ | ⟨g9, c9, h, _⟩ <;> exact ⟨_, _, _, h⟩
            have hEv := (hEq.trans hwq2).trans hw3
            have hne : ∀ q, (Value.slice av nv cv).ownBlock = some q → q ≠ p := fun q hq => by
              have h1 := (World.ownsRow.lt hl q hq).1
              have h2 := hwq2.size
              omega
            have hBp := (hBp.ext hwq2).ext hw3
            clear hwq2 hw3 hEq g0 g1 hsv hsp
            repeat' (refine wpZ_stepQ rfl (fun K hK => ?_)
                     go_simp
                     try (rw [if_neg (by intro h; simp [undef] at h)])
                     try split
                     all_goals
                       first
                       | (refine hK _ ?_
                          clear hK K)
                       | (apply Exists.intro
                          refine ⟨fun wq hwq => ?_, hK _ ?_⟩
                          · have hcq := hwq.cellS
                            go_simp
                            first
                            | exact ⟨Ext.refl _, rfl⟩
                          clear hK K))
            refine wpZ_stepL rfl (by kernel_rfl) (by kernel_rfl) (by kernel_rfl) (fun K hK wz hwz => ?_)
            have hBz := hBp.ext hwz
            have hlz := hl.ext hwz
            have b0 := hBz.cell 0 (by simp)
            have b1 := hBz.cell 1 (by simp)
            have y0 := hBz.fr 0
            have y1 := hBz.fr 1
            have hEz : Ext wv wz := hEv.trans hwz
            have e0z := hEz.keep e0
            have e1z := hEz.keep e1
            go_simp
            refine hK _ _ ?_
            clear hK K
            have hO : Only p wz ((wz.setCell ⟨p, 0, none⟩ (.int .i64 sz)).setCell ⟨p, 1, none⟩ (.slice av nv cv)) := ((Only.refl p wz).setCell 0 _).setCell 1 _
            have hBs := (hBz.set 0 (by simp) (.int .i64 sz)).set 1 (by simp) (.slice av nv cv)
            have hls := World.ownsRow.kept hlz hO (by
              cases hv : (Value.slice av nv cv).ownBlock with
              | none => exact .inl rfl
              | some q =>
                refine .inr (fun e => ?_)
                injection e with e
                exact hne q hv e)
            have hEs : Ext wb ((wz.setCell ⟨p, 0, none⟩ (.int .i64 sz)).setCell ⟨p, 1, none⟩ (.slice av nv cv)) := Only.ext (hwv.trans hEz) hO (by omega)
            have hEr : Ext wr ((wz.setCell ⟨p, 0, none⟩ (.int .i64 sz)).setCell ⟨p, 1, none⟩ (.slice av nv cv)) := Only.ext (hE.trans hEz) hO (by have := hE.size; omega)
            have e0s := hO.keep (p := ⟨wr.heap.size, 0, none⟩) (by dsimp only; omega) e0z
            have e1s := hO.keep (p := ⟨wr.heap.size, 1, none⟩) (by dsimp only; omega) e1z
            generalize (wz.setCell ⟨p, 0, none⟩ (.int .i64 sz)).setCell ⟨p, 1, none⟩ (.slice av nv cv) = w5 at hO hBs hls hEs hEr e0s e1s ⊢
            have f0 := hBs.cell 0 (by simp)
            have f1 := hBs.cell 1 (by simp)
            rw [if_neg (by omega), if_pos rfl] at f0
            rw [if_pos rfl] at f1
            have hRn := RowsV.rdR hls (HRE.out.ext (hw.trans hEs))
            rw [HES.out] at hRn
            have hnv := (RowsV.lenEq hls).1
            rw [HEL.out] at hnv
            have HW := hide (fun w' (hw' : Ext w5 w') => HWI.out w' av nv cv hnv (hRn.ext hw'))
            have HPG := hide (fun w' (hw' : Ext w5 w') => HPF.out w' (hEr.trans hw'))
            clear hBs hls hRn hnv hO hBz hlz hBp hl hne hEz hwz e0z e1z b0 b1 y0 y1 hEv
            go_wp2
            refine wp_region_O [0,1,2,3,5,4,6] (by kernel_rfl) rfl (by kernel_rfl) ?_
            repeat' (refine wpO_stepQ rfl (fun K hK => ?_)
                     go_simp
                     try (rw [if_neg (by intro h; simp [undef] at h)])
                     try split
                     all_goals
                       first
                       | (refine hK _ ?_
                          clear hK K)
                       | (apply Exists.intro
                          refine ⟨fun wq hwq => ?_, hK _ ?_⟩
                          · have hcq := hwq.cellS
                            go_simp
                            first
                            | exact ⟨Ext.refl _, rfl⟩
                          clear hK K))
            repeat' (refine wpO_stepQ rfl (fun K hK => ?_)
                     go_simp
                     try (rw [if_neg (by intro h; simp [undef] at h)])
                     try split
                     all_goals
                       first
                       | (refine hK _ ?_
                          clear hK K)
                       | (apply Exists.intro
                          refine ⟨fun wq hwq => ?_, hK _ ?_⟩
                          · have hcq := hwq.cellS
                            go_simp
                            first
                            | exact ⟨Ext.refl _, rfl⟩
                            | exact ⟨Ext.refl _, HW.out _ (by repeat (first | exact Ext.refl _ | assumption | refine Ext.alloc ?_ _ | refine Ext.drew ?_ | refine Ext.trans ?_ (by assumption)))⟩
                          clear hK K))
            repeat' (refine wpO_stepQ rfl (fun K hK => ?_)
                     go_simp
                     try (rw [if_neg (by intro h; simp [undef] at h)])
                     try split
                     all_goals
                       first
                       | (refine hK _ ?_
                          clear hK K)
                       | (apply Exists.intro
                          refine ⟨fun wq hwq => ?_, hK _ ?_⟩
                          · have hcq := hwq.cellS
                            go_simp
                            first
                            | exact ⟨Ext.refl _, rfl⟩
                            | exact ⟨Ext.refl _, HPG.out _ (by repeat (first | exact Ext.refl _ | assumption | refine Ext.alloc ?_ _ | refine Ext.drew ?_ | refine Ext.trans ?_ (by assumption)))⟩
                          clear hK K))
            refine wpO_nil (fun wy hwy => ?_)
            go_wp2
            go_ret
            exact ⟨ret_int (by rw [HF.out, firstN_some hkt hno.out HMQ.out]), hw.trans (hEs.trans hwy)⟩
        · go_simp
          refine ⟨(Ext.refl _).alloc _, hK _ _ ?_⟩
          clear hK K
          have hBp := BlkF.new wq #[.int .i64 0, .slice none 0 0] 29
          obtain ⟨p, hp⟩ : ∃ p : Nat, p = wq.heap.size := ⟨_, rfl⟩
          have hE3 := hwq.alloc (.cells #[.int .i64 0, .slice none 0 0] 29)
          have hsp : p < (wq.alloc (.cells #[.int .i64 0, .slice none 0 0] 29)).heap.size := by rw [hp]; simp
          have hpv : wv.heap.size ≤ p := by
            have h1 := hwq.size
            omega
          rw [← hp] at hBp ⊢
          generalize wq.alloc (.cells #[.int .i64 0, .slice none 0 0] 29) = wn at hBp hE3 hsp ⊢
          clear hwq hp
          refine wpZ_stepS rfl (by kernel_rfl) (fun K hK wq hwq => ?_)
          go_simp
          refine ⟨(Ext.refl _).alloc _, hK _ _ ?_⟩
          clear hK K
          have g0 := new0 wq (.slice (some ⟨b, off, none⟩) k c) [.slice A (vs.length - (k + 1)) (c - (k + 1))] 27
          have g1 := new1 wq (.slice (some ⟨b, off, none⟩) k c) (.slice A (vs.length - (k + 1)) (c - (k + 1))) [] 27
          have hEq := (hE3.trans hwq).alloc (.cells #[.slice (some ⟨b, off, none⟩) k c, .slice A (vs.length - (k + 1)) (c - (k + 1))] 27)
          obtain ⟨gq, hgq⟩ : ∃ gq : Nat, gq = wq.heap.size := ⟨_, rfl⟩
          rw [← hgq] at g0 g1 ⊢
          have hsv := hwq.size
          have hBp := (hBp.ext hwq).ext (Ext.new wq (.cells #[.slice (some ⟨b, off, none⟩) k c, .slice A (vs.length - (k + 1)) (c - (k + 1))] 27))
          have hsp2 : p < (wq.alloc (.cells #[.slice (some ⟨b, off, none⟩) k c, .slice A (vs.length - (k + 1)) (c - (k + 1))] 27)).heap.size := by simp; omega
          generalize wq.alloc (.cells #[.slice (some ⟨b, off, none⟩) k c, .slice A (vs.length - (k + 1)) (c - (k + 1))] 27) = wp at g0 g1 hEq hBp hsp2 ⊢
          clear hgq
          clear hwq hE3
          refine wpZ_stepS rfl (by kernel_rfl) (fun K hK wq2 hwq2 => ?_)
          go_simp
          refine (HCC.out wq2 gq (hEq.trans hwq2) (hwq2.keep g0) (hwq2.keep g1)).mono ?_
          rintro e w3 ⟨v, rfl, hl, hw3⟩
          refine ⟨hw3, hK _ _ ?_⟩
          clear hK K
          obtain ⟨av, nv, cv, rfl⟩ : ∃ av nv cv, v = .slice av nv cv := by
            rcases hl.val with ⟨h, _⟩ | ⟨g9, c9, h, _⟩ <;> exact ⟨_, _, _, h⟩
          have hEv := (hEq.trans hwq2).trans hw3
          have hne : ∀ q, (Value.slice av nv cv).ownBlock = some q → q ≠ p := fun q hq => by
            have h1 := (World.ownsRow.lt hl q hq).1
            have h2 := hwq2.size
            omega
          have hBp := (hBp.ext hwq2).ext hw3
          clear hwq2 hw3 hEq g0 g1 hsv hsp hsp2
          repeat' (refine wpZ_stepQ rfl (fun K hK => ?_)
                   go_simp
                   try (rw [if_neg (by intro h; simp [undef] at h)])
                   try split
                   all_goals
                     first
                     | (refine hK _ ?_
                        clear hK K)
                     | (apply Exists.intro
                        refine ⟨fun wq hwq => ?_, hK _ ?_⟩
                        · have hcq := hwq.cellS
                          go_simp
                          first
                          | exact ⟨Ext.refl _, rfl⟩
                        clear hK K))
          refine wpZ_stepL rfl (by kernel_rfl) (by kernel_rfl) (by kernel_rfl) (fun K hK wz hwz => ?_)
          have hBz := hBp.ext hwz
          have hlz := hl.ext hwz
          have b0 := hBz.cell 0 (by simp)
          have b1 := hBz.cell 1 (by simp)
          have y0 := hBz.fr 0
          have y1 := hBz.fr 1
          have hEz : Ext wv wz := hEv.trans hwz
          have e0z := hEz.keep e0
          have e1z := hEz.keep e1
          go_simp
          refine hK _ _ ?_
          clear hK K
          have hO : Only p wz ((wz.setCell ⟨p, 0, none⟩ (.int .i64 sz)).setCell ⟨p, 1, none⟩ (.slice av nv cv)) := ((Only.refl p wz).setCell 0 _).setCell 1 _
          have hBs := (hBz.set 0 (by simp) (.int .i64 sz)).set 1 (by simp) (.slice av nv cv)
          have hls := World.ownsRow.kept hlz hO (by
            cases hv : (Value.slice av nv cv).ownBlock with
            | none => exact .inl rfl
            | some q =>
              refine .inr (fun e => ?_)
              injection e with e
              exact hne q hv e)
          have hEs : Ext wb ((wz.setCell ⟨p, 0, none⟩ (.int .i64 sz)).setCell ⟨p, 1, none⟩ (.slice av nv cv)) := Only.ext (hwv.trans hEz) hO (by omega)
          have hEr : Ext wr ((wz.setCell ⟨p, 0, none⟩ (.int .i64 sz)).setCell ⟨p, 1, none⟩ (.slice av nv cv)) := Only.ext (hE.trans hEz) hO (by have := hE.size; omega)
          have e0s := hO.keep (p := ⟨wr.heap.size, 0, none⟩) (by dsimp only; omega) e0z
          have e1s := hO.keep (p := ⟨wr.heap.size, 1, none⟩) (by dsimp only; omega) e1z
          generalize (wz.setCell ⟨p, 0, none⟩ (.int .i64 sz)).setCell ⟨p, 1, none⟩ (.slice av nv cv) = w5 at hO hBs hls hEs hEr e0s e1s ⊢
          have f0 := hBs.cell 0 (by simp)
          have f1 := hBs.cell 1 (by simp)
          rw [if_neg (by omega), if_pos rfl] at f0
          rw [if_pos rfl] at f1
          have hRn := RowsV.rdR hls (HRE.out.ext (hw.trans hEs))
          rw [HES.out] at hRn
          have hnv := (RowsV.lenEq hls).1
          rw [HEL.out] at hnv
          have HW := hide (fun w' (hw' : Ext w5 w') => HWI.out w' av nv cv hnv (hRn.ext hw'))
          have HPG := hide (fun w' (hw' : Ext w5 w') => HPF.out w' (hEr.trans hw'))
          clear hBs hls hRn hnv hO hBz hlz hBp hl hne hEz hwz e0z e1z b0 b1 y0 y1 hEv
          go_wp2
          refine wp_region_O [0,1,2,3,5,4,6] (by kernel_rfl) rfl (by kernel_rfl) ?_
          repeat' (refine wpO_stepQ rfl (fun K hK => ?_)
                   go_simp
                   try (rw [if_neg (by intro h; simp [undef] at h)])
                   try split
                   all_goals
                     first
                     | (refine hK _ ?_
                        clear hK K)
                     | (apply Exists.intro
                        refine ⟨fun wq hwq => ?_, hK _ ?_⟩
                        · have hcq := hwq.cellS
                          go_simp
                          first
                          | exact ⟨Ext.refl _, rfl⟩
                        clear hK K))
          repeat' (refine wpO_stepQ rfl (fun K hK => ?_)
                   go_simp
                   try (rw [if_neg (by intro h; simp [undef] at h)])
                   try split
                   all_goals
                     first
                     | (refine hK _ ?_
                        clear hK K)
                     | (apply Exists.intro
                        refine ⟨fun wq hwq => ?_, hK _ ?_⟩
                        · have hcq := hwq.cellS
                          go_simp
                          first
                          | exact ⟨Ext.refl _, rfl⟩
                          | exact ⟨Ext.refl _, HW.out _ (by repeat (first | exact Ext.refl _ | assumption | refine Ext.alloc ?_ _ | refine Ext.drew ?_ | refine Ext.trans ?_ (by assumption)))⟩
                        clear hK K))
          repeat' (refine wpO_stepQ rfl (fun K hK => ?_)
                   go_simp
                   try (rw [if_neg (by intro h; simp [undef] at h)])
                   try split
                   all_goals
                     first
                     | (refine hK _ ?_
                        clear hK K)
                     | (apply Exists.intro
                        refine ⟨fun wq hwq => ?_, hK _ ?_⟩
                        · have hcq := hwq.cellS
                          go_simp
                          first
                          | exact ⟨Ext.refl _, rfl⟩
                          | exact ⟨Ext.refl _, HPG.out _ (by repeat (first | exact Ext.refl _ | assumption | refine Ext.alloc ?_ _ | refine Ext.drew ?_ | refine Ext.trans ?_ (by assumption)))⟩
                        clear hK K))
          refine wpO_nil (fun wy hwy => ?_)
          go_wp2
          go_ret
          exact ⟨ret_int (by rw [HF.out, firstN_some hkt hno.out HMQ.out]), hw.trans (hEs.trans hwy)⟩
    · have HN : Hid (firstN vs.length (absQ rule sz vs ww) = -1) := firstN_none (fun j hj => hno.out j (by omega))
      go_wp2
      go_ret
      exact ⟨ret_int (by rw [HF.out, HN.out]), hw.trans hwr⟩

end Go.Proofs.YtilcdnkkabmbfaaGreat
