/- One alone wins and also in the reversed profile, of the program and of the spec. -/
import Derived.Test.YtblkbdfndbpndaaGreatWin
import Derived.Test.YtblkbdfndbpndaaGreatBld
namespace Go.Proofs.YtblkbdfndbpndaaGreat
open Go.RowKit

set_option maxRecDepth 100000 in
set_option maxHeartbeats 1000000 in
theorem equN_impl (w : World) (a1 a2 : Option Addr) (c1 c2 n : Nat) (xs ys : List Int) (hX : RdI w a1 xs) (hY : RdI w a2 ys) (hl : n ≤ 2000000) (hxn : Hid (xs.length = n)) (hyn : Hid (ys.length = n)) :
    Calls Tryz.prog 83 #[.slice a1 n c1, .slice a2 n c2] w fun e w' => e = .returned (.bool (decide (xs = ys))) ∧ Ext w w' := by
  go_enter Tryz.func83, Tryz.ntmps83
  go_wp2_with fail
  go_loopw [5, 13] (fun _ i wr => ∃ k : Nat, k ≤ n ∧ i = .int .i64 k ∧ Hid (xs.take k = ys.take k) ∧ Ext w wr) (fun _ i _ => n - (intOf i).toNat)
  case atStart => exact ⟨0, Nat.zero_le _, rfl, rfl, Ext.refl _⟩
  case round =>
    obtain ⟨k, hk, rfl, hall, hwr⟩ := hrel
    by_cases hlt : k < n
    · obtain ⟨x, hx⟩ := at_of_lt (xs := xs) (k := k) (by rw [hxn.out]; exact hlt)
      obtain ⟨y, hy⟩ := at_of_lt (xs := ys) (k := k) (by rw [hyn.out]; exact hlt)
      obtain ⟨b, off, rfl, c0⟩ := (hX.ext hwr).at_ hx
      obtain ⟨b', off', rfl, d0⟩ := (hY.ext hwr).at_ hy
      have hx' := hide hx
      have hy' := hide hy
      clear hx hy
      cases e : (x != y)
      all_goals
        go_wp2
        refine wp_region_X (by kernel_rfl) (by kernel_rfl) ?_
        repeat' (refine wpX_stepQ (fun K hK => ?_)
                 go_simp
                 try (rw [if_neg (by intro h; simp [undef] at h)])
                 try split
                 all_goals
                   first
                   | (refine hK _ ?_
                      clear hK K)
                   | (apply Exists.intro
                      refine ⟨fun wq hwq => ?_, hK _ ?_⟩
                      · have hcq := hwq.cellS
                        go_simp
                        first
                        | exact ⟨Ext.refl _, rfl⟩
                      clear hK K))
        refine wpX_nil (fun wz hwz => ?_)
        go_wp2
      · exact ⟨⟨k + 1, by omega, by go_num, take_ext hall.out hx'.out hy'.out (by simpa using e), hwr.trans hwz⟩, by simp [intOf]; omega⟩
      · go_ret
        refine ⟨ret_bool ?_, hwr.trans hwz⟩
        have h1 := hx'.out
        have h2 := hy'.out
        symm
        rw [decide_eq_false_iff_not]
        rintro rfl
        rw [h1] at h2
        injection h2 with h2
        simp [h2] at e
    · go_wp2
      go_ret
      refine ⟨ret_bool ?_, hwr⟩
      have h := hall.out
      rw [List.take_of_length_le (by rw [hxn.out]; omega), List.take_of_length_le (by rw [hyn.out]; omega)] at h
      simp [h]

set_option maxRecDepth 100000 in
theorem equ_impl (w : World) (a1 a2 : Option Addr) (c1 c2 : Nat) (xs ys : List Int) (hX : RdI w a1 xs) (hY : RdI w a2 ys) (hl : xs.length ≤ 2000000) :
    Calls Tryz.prog 83 #[.slice a1 xs.length c1, .slice a2 ys.length c2] w fun e w' => e = .returned (.bool (decide (xs = ys))) ∧ Ext w w' := by
  by_cases hlen : xs.length = ys.length
  · rw [← hlen]
    exact equN_impl w a1 a2 c1 c2 xs.length xs ys hX hY hl rfl hlen.symm
  · go_enter Tryz.func83, Tryz.ntmps83
    go_wp2
    go_ret
    exact ⟨ret_bool (by simp; rintro rfl; exact hlen rfl), (by repeat (first | exact Ext.refl _ | assumption | refine Ext.alloc ?_ _ | refine Ext.drew ?_ | refine Ext.trans ?_ (by assumption)))⟩

set_option maxRecDepth 100000 in
set_option maxHeartbeats 1000000 in
theorem sameN_spec (w : World) (a1 a2 : Option Addr) (c1 c2 n : Nat) (xs ys : List Int) (hX : RdI w a1 xs) (hY : RdI w a2 ys) (hl : n ≤ 2000000) (hxn : Hid (xs.length = n)) (hyn : Hid (ys.length = n)) :
    Calls Tryz.prog 81 #[.slice a1 n c1, .slice a2 n c2] w fun e w' => e = .returned (.bool (decide (xs = ys))) ∧ Ext w w' := by
  go_enter Tryz.func81, Tryz.ntmps81
  go_wp2_with fail
  go_loopw [5, 6, 14] (fun _ _ i wr => ∃ k : Nat, k ≤ n ∧ i = .int .i64 k ∧ Hid (xs.take k = ys.take k) ∧ Ext w wr) (fun _ _ i _ => n - (intOf i).toNat)
  case atStart => exact ⟨0, Nat.zero_le _, rfl, rfl, Ext.refl _⟩
  case round =>
    obtain ⟨k, hk, rfl, hall, hwr⟩ := hrel
    by_cases hlt : k < n
    · obtain ⟨x, hx⟩ := at_of_lt (xs := xs) (k := k) (by rw [hxn.out]; exact hlt)
      obtain ⟨y, hy⟩ := at_of_lt (xs := ys) (k := k) (by rw [hyn.out]; exact hlt)
      obtain ⟨b, off, rfl, c0⟩ := (hX.ext hwr).at_ hx
      obtain ⟨b', off', rfl, d0⟩ := (hY.ext hwr).at_ hy
      have hx' := hide hx
      have hy' := hide hy
      clear hx hy
      cases e : (x != y)
      all_goals
        go_wp2
      · exact ⟨⟨k + 1, by omega, by go_num, take_ext hall.out hx'.out hy'.out (by simpa using e), hwr⟩, by simp [intOf]; omega⟩
      · go_ret
        refine ⟨ret_bool ?_, hwr⟩
        have h1 := hx'.out
        have h2 := hy'.out
        symm
        rw [decide_eq_false_iff_not]
        rintro rfl
        rw [h1] at h2
        injection h2 with h2
        simp [h2] at e
    · go_wp2
      go_ret
      refine ⟨ret_bool ?_, hwr⟩
      have h := hall.out
      rw [List.take_of_length_le (by rw [hxn.out]; omega), List.take_of_length_le (by rw [hyn.out]; omega)] at h
      simp [h]

set_option maxRecDepth 100000 in
theorem same_spec (w : World) (a1 a2 : Option Addr) (c1 c2 : Nat) (xs ys : List Int) (hX : RdI w a1 xs) (hY : RdI w a2 ys) (hl : xs.length ≤ 2000000) :
    Calls Tryz.prog 81 #[.slice a1 xs.length c1, .slice a2 ys.length c2] w fun e w' => e = .returned (.bool (decide (xs = ys))) ∧ Ext w w' := by
  by_cases hlen : xs.length = ys.length
  · rw [← hlen]
    exact sameN_spec w a1 a2 c1 c2 xs.length xs ys hX hY hl rfl hlen.symm
  · go_enter Tryz.func81, Tryz.ntmps81
    go_wp2
    go_ret
    exact ⟨ret_bool (by simp; rintro rfl; exact hlen rfl), (by repeat (first | exact Ext.refl _ | assumption | refine Ext.alloc ?_ _ | refine Ext.drew ?_ | refine Ext.trans ?_ (by assumption)))⟩

set_option maxRecDepth 100000 in
theorem revMap (vs : List Vt) : vs.map (fun x => (x.1.reverse, x.2)) = mapV List.reverse vs := rfl

set_option maxRecDepth 100000 in
set_option maxHeartbeats 2000000 in
theorem chg_no (K : Value) (w : World) (sz s2 : Int) (a : Option Addr) (c : Nat) (vs : List Vt) (hR : RdV w a vs) (h0 : profOk sz vs = false) :
    Calls Tryz.prog 167 #[.agg #[.int .i64 sz, .slice a vs.length c], .int .i64 s2, K] w fun e w' => e = .returned (.tuple #[.agg #[.int .i64 0, .slice none 0 0], .bool false]) ∧ Ext w w' := by
  have q0 := new0 w (.int .i64 sz) [.slice a vs.length c] 29
  have q1 := new1 w (.int .i64 sz) (.slice a vs.length c) [] 29
  have hs1 : (w.alloc (.cells #[.int .i64 sz, .slice a vs.length c] 29)).heap.size = w.heap.size + 1 := by simp
  have p0 := BlkF.new (w.alloc (.cells #[.int .i64 sz, .slice a vs.length c] 29)) #[.int .i64 0, .slice none 0 0] 29
  rw [hs1] at p0
  have P0 := hide p0
  clear p0 hs1
  go_enter Tryz.func167, Tryz.ntmps167
  go_wp2_with fail
  have HPO := prof_impl ((w.alloc (.cells #[.int .i64 sz, .slice a vs.length c] 29)).alloc (.cells #[.int .i64 0, .slice none 0 0] 29)) sz a c vs (hR.ext (by repeat (first | exact Ext.refl _ | assumption | refine Ext.alloc ?_ _ | refine Ext.drew ?_ | refine Ext.trans ?_ (by assumption))))
  rw [h0] at HPO
  refine HPO.mono ?_
  rintro e w1 ⟨rfl, hw1⟩
  have p1 := P0.out.ext hw1
  have hw : Ext w w1 := (by repeat (first | exact Ext.refl _ | assumption | refine Ext.alloc ?_ _ | refine Ext.drew ?_ | refine Ext.trans ?_ (by assumption)))
  have r0 := p1.cell 0 (by simp)
  have r1 := p1.cell 1 (by simp)
  have z0 := p1.fr 0
  have z1 := p1.fr 1
  clear p1 P0 hw1
  go_wp2
  have hO1 : Only (w.heap.size + 1) w1 ((w1.setCell ⟨w.heap.size + 1, 0, none⟩ (.int .i64 0)).setCell ⟨w.heap.size + 1, 1, none⟩ (.slice none 0 0)) := ((Only.refl _ w1).setCell 0 _).setCell 1 _
  exact bodyPost_ret (v := .tuple #[.agg #[.int .i64 0, .slice none 0 0], .bool false]) (by simp [results, Tryz.results167, go_sem, r0, r1]) rfl ⟨rfl, Only.ext hw hO1 (by omega)⟩

set_option maxRecDepth 100000 in
set_option maxHeartbeats 2000000 in
theorem revP_no (w : World) (sz : Int) (a : Option Addr) (c : Nat) (vs : List Vt) (hR : RdV w a vs) (h0 : profOk sz vs = false) :
    Calls Tryz.prog 82 #[.agg #[.int .i64 sz, .slice a vs.length c]] w fun e w' => e = .returned (.tuple #[.agg #[.int .i64 0, .slice none 0 0], .bool false]) ∧ Ext w w' := by
  have HC : Hid (∀ w', Ext w w' → Calls Tryz.prog 167 #[.agg #[.int .i64 sz, .slice a vs.length c], .int .i64 sz, .func (.func 168) #[] #[]] w' fun e w'' => e = .returned (.tuple #[.agg #[.int .i64 0, .slice none 0 0], .bool false]) ∧ Ext w' w'') := fun w' hw' => chg_no _ w' sz sz a c vs (hR.ext hw') h0
  have q0 := new0 w (.int .i64 sz) [.slice a vs.length c] 29
  have q1 := new1 w (.int .i64 sz) (.slice a vs.length c) [] 29
  have hE1 := Ext.new w (.cells #[.int .i64 sz, .slice a vs.length c] 29)
  have hs0 : (w.alloc (.cells #[.int .i64 sz, .slice a vs.length c] 29)).heap.size = w.heap.size + 1 := by simp
  have p0 := BlkF.new (w.alloc (.cells #[.int .i64 sz, .slice a vs.length c] 29)) #[.int .i64 0, .slice none 0 0] 29
  have hE2 := Ext.new (w.alloc (.cells #[.int .i64 sz, .slice a vs.length c] 29)) (.cells #[.int .i64 0, .slice none 0 0] 29)
  rw [hs0] at p0
  clear h0
  go_enter Tryz.func82, Tryz.ntmps82
  go_wp2_with fail
  generalize w.alloc (.cells #[.int .i64 sz, .slice a vs.length c] 29) = wA at hE1 hE2 hs0 p0 q0 q1 ⊢
  have hw : Ext w (wA.alloc (.cells #[.int .i64 0, .slice none 0 0] 29)) := hE1.trans hE2
  generalize wA.alloc (.cells #[.int .i64 0, .slice none 0 0] 29) = wb at hE2 p0 hw ⊢
  refine (HC.out _ hw).mono ?_
  rintro e w1 ⟨rfl, hw1⟩
  have p1 := p0.ext hw1
  have r0 := p1.cell 0 (by simp)
  have r1 := p1.cell 1 (by simp)
  have z0 := p1.fr 0
  have z1 := p1.fr 1
  clear p1 p0 HC
  go_wp2
  have hO1 : Only (w.heap.size + 1) w1 ((w1.setCell ⟨w.heap.size + 1, 0, none⟩ (.int .i64 0)).setCell ⟨w.heap.size + 1, 1, none⟩ (.slice none 0 0)) := ((Only.refl _ w1).setCell 0 _).setCell 1 _
  exact bodyPost_ret (v := .tuple #[.agg #[.int .i64 0, .slice none 0 0], .bool false]) (by simp [results, Tryz.results82, go_sem, r0, r1]) rfl ⟨rfl, Only.ext (hw.trans hw1) hO1 (by omega)⟩

set_option maxRecDepth 100000 in
set_option maxHeartbeats 4000000 in
theorem revF_impl (w : World) (rule sz : Int) (a : Option Addr) (c : Nat) (vs : List Vt) (hR : RdV w a vs) :
    Calls Tryz.prog 37 #[.int .i64 rule, .agg #[.int .i64 sz, .slice a vs.length c]] w fun e w' => e = .returned (.bool (revO rule sz vs)) ∧ Ext w w' := by
  have q0 := new0 w (.int .i64 sz) [.slice a vs.length c] 29
  have q1 := new1 w (.int .i64 sz) (.slice a vs.length c) [] 29
  have hw := Ext.new w (.cells #[.int .i64 sz, .slice a vs.length c] 29)
  obtain ⟨xs, hxs⟩ : ∃ xs, xs = winO rule sz vs := ⟨_, rfl⟩
  have hxl : xs.length ≤ 5 := by rw [hxs]; exact winO_len rule sz vs
  have HWI : Hid (∀ w', Ext w w' → Calls Tryz.prog 21 #[.int .i64 rule, .agg #[.int .i64 sz, .slice a vs.length c]] w' fun e w'' => ∃ v, e = .returned v ∧ OwnI w'' w'.heap.size v xs ∧ Ext w' w'') := fun w' hw' => by
    rw [hxs]; exact wins_impl w' rule sz a c vs (hR.ext hw')
  cases h0 : profOk sz vs
  · have HF : Hid (revO rule sz vs = false) := hide (by unfold revO; rw [show winO rule sz vs = [] by simp [winO, h0]]; simp)
    have HRP := hide (revP_no (w.alloc (.cells #[.int .i64 sz, .slice a vs.length c] 29)) sz a c vs (hR.ext hw) h0)
    clear h0 hxs
    go_enter Tryz.func37, Tryz.ntmps37
    go_wp2_with fail
    refine HRP.out.mono ?_
    rintro e w1 ⟨rfl, hw1⟩
    have hwb := (hw.trans hw1).trans (Ext.new w1 (.cells #[.int .i64 0, .slice none 0 0] 29))
    have hEx := Ext.new w1 (.cells #[.int .i64 0, .slice none 0 0] 29)
    have q0 := hEx.keep (hw1.keep q0)
    have q1 := hEx.keep (hw1.keep q1)
    go_wp2_with fail
    refine (HWI.out _ hwb).mono ?_
    rintro e w2 ⟨v, rfl, hv, hw2⟩
    go_wp2
    go_ret
    exact ⟨ret_bool HF.out.symm, hwb.trans hw2⟩
  obtain ⟨ys, hys⟩ : ∃ ys, ys = winO rule sz (mapV List.reverse vs) := ⟨_, rfl⟩
  have hyl : ys.length ≤ 5 := by rw [hys]; exact winO_len _ _ _
  have HV : Hid (revO rule sz vs = (decide (xs.length = 1) && (decide (2 ≤ sz) && decide (xs = ys)))) := hide (by unfold revO; rw [hxs, hys])
  have HRP := hide (revP_impl (w.alloc (.cells #[.int .i64 sz, .slice a vs.length c] 29)) sz a c vs (hR.ext hw) h0)
  have HWR : Hid (∀ w' a3 n3 c3, n3 = (mapV List.reverse vs).length → RdV w' a3 (mapV List.reverse vs) → Calls Tryz.prog 21 #[.int .i64 rule, .agg #[.int .i64 sz, .slice a3 n3 c3]] w' fun e w'' => ∃ v, e = .returned v ∧ OwnI w'' w'.heap.size v ys ∧ Ext w' w'') := fun w' a3 n3 c3 hn hR3 => by
    rw [hn, hys]; exact wins_impl w' rule sz a3 c3 _ hR3
  clear h0 hxs hys
  go_enter Tryz.func37, Tryz.ntmps37
  go_wp2_with fail
  refine HRP.out.mono ?_
  rintro e w1 ⟨v, es, rfl, hl, hm, hw1⟩
  obtain ⟨av, cv, rfl, hcv⟩ := hl.form
  have hRv := hl.rdV
  rw [hm, revMap] at hRv
  have hel : es.length = (mapV List.reverse vs).length := vtsOf_len (by rw [hm, revMap])
  have HEL := hide hel
  have hEx := Ext.new w1 (.cells #[.int .i64 sz, .slice av es.length cv] 29)
  have e0 := new0 w1 (.int .i64 sz) [.slice av es.length cv] 29
  have e1 := new1 w1 (.int .i64 sz) (.slice av es.length cv) [] 29
  have hwb := (hw.trans hw1).trans hEx
  have q0 := hEx.keep (hw1.keep q0)
  have q1 := hEx.keep (hw1.keep q1)
  clear hl hm hel HRP
  go_wp2_with fail
  refine (HWI.out _ hwb).mono ?_
  rintro e w2 ⟨v, rfl, hv, hw2⟩
  obtain ⟨ax, cx, rfl, hcx, _, hRx, _⟩ := hv.val
  have e0 := hw2.keep e0
  have e1 := hw2.keep e1
  have q0 := hw2.keep q0
  have q1 := hw2.keep q1
  have HWZ := hide (HWR.out w2 av es.length cv HEL.out (hRv.ext (hEx.trans hw2)))
  have hwc := hwb.trans hw2
  clear hv HWI HWR
  by_cases h2 : 2 ≤ sz
  · have t1 : ¬ sz < 2 := by omega
    by_cases h1 : xs.length = 1
    · have HXE : Hid (∀ w3 a3 c3, Ext w2 w3 → RdI w3 a3 ys → Calls Tryz.prog 83 #[.slice ax 1 cx, .slice a3 ys.length c3] w3 fun e w' => e = .returned (.bool (decide (xs = ys))) ∧ Ext w3 w') := fun w3 a3 c3 hw3 hR3 => by
        have h := equ_impl w3 ax a3 cx c3 xs ys (hRx.ext hw3) hR3 (by omega)
        rw [h1] at h
        exact h
      have HVV : Hid (revO rule sz vs = decide (xs = ys)) := hide (by rw [HV.out, decide_eq_true h1, decide_eq_true h2]; simp)
      rw [h1]
      clear h1 hRx HV
      go_wp2_with fail
      refine HWZ.out.mono ?_
      rintro e w3 ⟨v, rfl, hv, hw3⟩
      obtain ⟨ay, cy, rfl, hcy, _, hRy, _⟩ := hv.val
      have HEQ := hide (HXE.out w3 ay cy hw3 hRy)
      clear hv hRy HXE
      go_wp2_with fail
      refine HEQ.out.mono ?_
      rintro e w4 ⟨rfl, hw4⟩
      go_wp2
      go_ret
      exact ⟨ret_bool HVV.out.symm, hwc.trans (hw3.trans hw4)⟩
    · have HVV : Hid (revO rule sz vs = false) := hide (by rw [HV.out, decide_eq_false h1]; rfl)
      have t0 : ((xs.length : Int) == 1) = false := by rw [beq_eq_false_iff_ne]; omega
      clear HV
      go_wp2
      go_ret
      exact ⟨ret_bool HVV.out.symm, hwc⟩
  · have HVV : Hid (revO rule sz vs = false) := hide (by rw [HV.out, decide_eq_false h2]; simp)
    clear HV
    go_wp2
    go_ret
    exact ⟨ret_bool HVV.out.symm, hwc⟩

set_option maxRecDepth 100000 in
set_option maxHeartbeats 4000000 in
theorem revF_spec (w : World) (rule sz : Int) (a : Option Addr) (c : Nat) (vs : List Vt) (hR : RdV w a vs) :
    Calls Tryz.prog 36 #[.int .i64 rule, .agg #[.int .i64 sz, .slice a vs.length c]] w fun e w' => e = .returned (.bool (revO rule sz vs)) ∧ Ext w w' := by
  have q0 := new0 w (.int .i64 sz) [.slice a vs.length c] 29
  have q1 := new1 w (.int .i64 sz) (.slice a vs.length c) [] 29
  have hw := Ext.new w (.cells #[.int .i64 sz, .slice a vs.length c] 29)
  obtain ⟨xs, hxs⟩ : ∃ xs, xs = winO rule sz vs := ⟨_, rfl⟩
  have hxl : xs.length ≤ 5 := by rw [hxs]; exact winO_len rule sz vs
  have HWI : Hid (∀ w', Ext w w' → Calls Tryz.prog 20 #[.int .i64 rule, .agg #[.int .i64 sz, .slice a vs.length c]] w' fun e w'' => ∃ v, e = .returned v ∧ OwnI w'' w'.heap.size v xs ∧ Ext w' w'') := fun w' hw' => by
    rw [hxs]; exact wins_spec w' rule sz a c vs (hR.ext hw')
  obtain ⟨ys, hys⟩ : ∃ ys, ys = winO rule sz (mapV List.reverse vs) := ⟨_, rfl⟩
  have hyl : ys.length ≤ 5 := by rw [hys]; exact winO_len _ _ _
  have HV : Hid (revO rule sz vs = (decide (xs.length = 1) && (decide (2 ≤ sz) && decide (xs = ys)))) := hide (by unfold revO; rw [hxs, hys])
  have HOK : Hid (xs.length = 1 → profOk sz vs = true) := fun h => by
    cases h0 : profOk sz vs
    · rw [hxs, show winO rule sz vs = [] by simp [winO, h0]] at h; cases h
    · rfl
  have HWR : Hid (∀ w' a3 n3 c3, n3 = (mapV List.reverse vs).length → RdV w' a3 (mapV List.reverse vs) → Calls Tryz.prog 20 #[.int .i64 rule, .agg #[.int .i64 sz, .slice a3 n3 c3]] w' fun e w'' => ∃ v, e = .returned v ∧ OwnI w'' w'.heap.size v ys ∧ Ext w' w'') := fun w' a3 n3 c3 hn hR3 => by
    rw [hn, hys]; exact wins_spec w' rule sz a3 c3 _ hR3
  clear hxs hys
  go_enter Tryz.func36, Tryz.ntmps36
  go_wp2_with fail
  refine (HWI.out _ hw).mono ?_
  rintro e w1 ⟨v, rfl, hv, hw1⟩
  obtain ⟨ax, cx, rfl, hcx, _, hRx, _⟩ := hv.val
  have hwb := hw.trans hw1
  have q0 := hw1.keep q0
  have q1 := hw1.keep q1
  clear hv HWI
  by_cases h1 : xs.length = 1
  · by_cases h2 : 2 ≤ sz
    · have t1 : ¬ sz < 2 := by omega
      have HVV : Hid (revO rule sz vs = decide (xs = ys)) := hide (by rw [HV.out, decide_eq_true h1, decide_eq_true h2]; simp)
      have HRP := hide (revP_spec w1 sz a c vs (hR.ext hwb) (HOK.out h1))
      have HXE : Hid (∀ w3 a3 c3, Ext w1 w3 → RdI w3 a3 ys → Calls Tryz.prog 81 #[.slice ax 1 cx, .slice a3 ys.length c3] w3 fun e w' => e = .returned (.bool (decide (xs = ys))) ∧ Ext w3 w') := fun w3 a3 c3 hw3 hR3 => by
        have h := same_spec w3 ax a3 cx c3 xs ys (hRx.ext hw3) hR3 (by omega)
        rw [h1] at h
        exact h
      rw [h1]
      clear h1 hRx HV HOK
      go_wp2_with fail
      refine HRP.out.mono ?_
      rintro e w2 ⟨v, es, rfl, hl, hm, hw2⟩
      obtain ⟨av, cv, rfl, hcv⟩ := hl.form
      have hRv := hl.rdV
      rw [hm, revMap] at hRv
      have hel : es.length = (mapV List.reverse vs).length := vtsOf_len (by rw [hm, revMap])
      have hEx := Ext.new w2 (.cells #[.int .i64 sz, .slice av es.length cv] 29)
      have HWZ := hide (HWR.out _ av es.length cv hel (hRv.ext hEx))
      clear hl hm hel HRP HWR
      go_wp2_with fail
      refine HWZ.out.mono ?_
      rintro e w3 ⟨v, rfl, hv, hw3⟩
      obtain ⟨ay, cy, rfl, hcy, _, hRy, _⟩ := hv.val
      have HEQ := hide (HXE.out w3 ay cy (hw2.trans (hEx.trans hw3)) hRy)
      clear hv hRy HXE
      go_wp2_with fail
      refine HEQ.out.mono ?_
      rintro e w4 ⟨rfl, hw4⟩
      go_wp2
      go_ret
      exact ⟨ret_bool HVV.out.symm, hwb.trans (hw2.trans (hEx.trans (hw3.trans hw4)))⟩
    · have HVV : Hid (revO rule sz vs = false) := hide (by rw [HV.out, decide_eq_false h2]; simp)
      rw [h1]
      clear HV h1
      go_wp2
      go_ret
      exact ⟨ret_bool HVV.out.symm, hwb⟩
  · have HVV : Hid (revO rule sz vs = false) := hide (by rw [HV.out, decide_eq_false h1]; rfl)
    have t0 : ((xs.length : Int) == 1) = false := by rw [beq_eq_false_iff_ne]; omega
    have t1 : ((xs.length : Int) != 1) = true := by rw [bne, t0]; rfl
    clear HV
    go_wp2
    go_ret
    exact ⟨ret_bool HVV.out.symm, hwb⟩

end Go.Proofs.YtblkbdfndbpndaaGreat
