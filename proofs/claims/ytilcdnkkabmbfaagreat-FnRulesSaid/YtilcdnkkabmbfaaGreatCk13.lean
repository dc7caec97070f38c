/- The ranking by scores, of the program. The run-off of the two first candidates. Eliminations of the reference, and those of the three rules. Eliminations of the reference. -/
import Derived.Test.YtilcdnkkabmbfaaGreatCk11
import Derived.Test.YtilcdnkkabmbfaaGreatCk12
import Derived.Lib.BufferMore
import Derived.Test.YtilcdnkkabmbfaaGreatCk5
namespace Go.Proofs.YtilcdnkkabmbfaaGreat
open Go.RowKit

set_option maxRecDepth 100000 in
set_option maxHeartbeats 1000000 in
theorem srkOne (w : World) (gs n : Nat) (av : Option Addr) (cv : Nat) (sc : Nat → Int) (i j : Nat) (hg : w.cell? ⟨gs, 0, none⟩ = some (.slice av n cv)) (hR : RdI w av (rowL n sc)) (hi : i < n) (hj : j < n)
    (h1 : -10000000 ≤ sc i ∧ sc i ≤ 10000000) (h2 : -10000000 ≤ sc j ∧ sc j ≤ 10000000) :
    Calls Tryz.prog 144 (#[] ++ (#[.int .i64 (i : Int), .int .i64 (j : Int)] ++ #[.pointer (some ⟨gs, 0, none⟩)])) w fun e w' => e = .returned (.int .i64 (sc j - sc i)) ∧ Ext w w' := by
  obtain ⟨b, off, rfl, c0⟩ := hR.at_ (rowL_at (f := sc) hi)
  obtain ⟨b2, off2, hb, c1⟩ := hR.at_ (rowL_at (f := sc) hj)
  injection hb with hb
  injection hb with hb hb2
  subst hb
  subst hb2
  have y1 : wrap64 (sc j - sc i) = sc j - sc i := IntWalk.wrap64_in _ (by omega)
  have y2 : IntKind.i64.wrap (sc j - sc i) = sc j - sc i := IntWalk.i64_in _ (by omega)
  show Calls Tryz.prog 144 #[.int .i64 (i : Int), .int .i64 (j : Int), .pointer (some ⟨gs, 0, none⟩)] w _
  go_enter Tryz.func144, Tryz.ntmps144
  go_wp2
  refine wp_region_X (by kernel_rfl) (by kernel_rfl) ?_
  repeat' (refine wpX_stepQ (fun K hK => ?_)
           go_simp
           try (rw [if_neg (by intro h; simp [undef] at h)])
           try split
           all_goals
             first
             | (refine hK _ ?_
                clear hK K)
             | (apply Exists.intro
                refine ⟨fun wq hwq => ?_, hK _ ?_⟩
                · have hcq := hwq.cellS
                  go_simp
                  first
                  | exact ⟨Ext.refl _, rfl⟩
                clear hK K))
  refine wpX_nil (fun wz hwz => ?_)
  go_wp2
  go_ret
  exact ⟨rfl, hwz⟩

set_option maxRecDepth 100000 in
set_option maxHeartbeats 4000000 in
theorem srk_impl (w : World) (sz : Int) (a aw : Option Addr) (c cw : Nat) (vs : List Vt) (f : Nat → Int) (n : Nat) (hz : sz = n) (hR : RdV w a vs) (hW : RdI w aw (rowL n f)) (hf : GoodW f) (h0 : profOk sz vs = true) :
    Calls Tryz.prog 92 #[.agg #[.int .i64 sz, .slice a vs.length c], .slice aw n cw] w fun e w' => ∃ v, e = .returned v ∧ WrI w' w.heap.size v (srk (scoV f vs) n) ∧ Ext w w' := by
  subst hz
  obtain ⟨m, hm, n1, n2⟩ := prof_nat h0
  have hnm : n = m := by omega
  rw [← hnm] at n1 n2
  clear hm hnm m
  have HF := hide hf
  have hbd : ∀ j, -10000000 ≤ scoV f vs j ∧ scoV f vs j ≤ 10000000 := fun j => by
    have hS := prof_small h0
    have h := scoV_bd hS hf j vs.length (Nat.le_refl _)
    rw [List.take_length] at h
    have := hS.1
    omega
  have HBD := hide hbd
  clear hf hbd
  have q0 := new0 w (.int .i64 n) [.slice a vs.length c] 29
  have q1 := new1 w (.int .i64 n) (.slice a vs.length c) [] 29
  have hnil : ∀ (W : World) (a : Addr) (n c : Nat), (binOp .eql 36 (.slice (some a) n c) (.slice none 0 0)).run Tryz.prog W = .ok (.bool false) W := fun W a n c => Lib.run_eql_slice_some_nil W a n c Tryz.underlying36
  go_enter Tryz.func92, Tryz.ntmps92
  go_wp2_with fail
  refine (sco_impl _ _ a aw c cw vs f n rfl (hR.ext (by repeat (first | exact Ext.refl _ | assumption | refine Ext.alloc ?_ _ | refine Ext.drew ?_ | refine Ext.trans ?_ (by assumption)))) (hW.ext (by repeat (first | exact Ext.refl _ | assumption | refine Ext.alloc ?_ _ | refine Ext.drew ?_ | refine Ext.trans ?_ (by assumption)))) HF.out h0).mono ?_
  rintro e w1 ⟨v, rfl, hv, hw1⟩
  have q0 := hw1.keep q0
  have q1 := hw1.keep q1
  obtain ⟨av, cv, rfl, hcv, hRs, hju⟩ := hv.fr
  clear hju
  rw [rowL_len] at hcv hv ⊢
  obtain ⟨b0, off0, rfl, hc0⟩ := hRs.at_ (rowL_at (f := scoV f vs) (show 0 < n by omega))
  have hE1 : Ext w w1 := (Ext.new _ _).trans hw1
  have r0 := new0 w1 (.slice (some ⟨b0, off0, none⟩) n cv) [] 36
  have hE2 := Ext.new w1 (.cells #[.slice (some ⟨b0, off0, none⟩) n cv] 36)
  have q0 := hE2.keep q0
  have q1 := hE2.keep q1
  go_wp2_with fail
  refine (indices_impl _ n n2).mono ?_
  rintro e w2 ⟨rfl, hB, hw2⟩
  have hE3 : Ext w w2 := hE1.trans (hE2.trans hw2)
  have r0 := hw2.keep r0
  have hRs2 := (hRs.ext hE2).ext hw2
  have hG : (w1.alloc (.cells #[.slice (some ⟨b0, off0, none⟩) n cv] 36)).heap.size = w1.heap.size + 1 := by simp
  have hws := hE1.size
  have hb0 : b0 < w1.heap.size := World.block_lt_of_cell? w1 _ hc0
  rw [hG] at hB
  clear hG hE2 hw2 hRs hv q0 q1 hc0
  have hBm : BlkF w2 (w1.heap.size + 1) n (memF (Value.int .i64) (iotaL n)) := hB.congr (fun o ho => (memF_at (val := Value.int .i64) (rowL_at (f := fun j => (j : Int)) ho)).symm)
  have hl : (iotaL n).length = n := rowL_len _ _
  have HS := hide (stab_impl 144 #[] #[.pointer (some ⟨w1.heap.size, 0, none⟩)] (keyS (scoV f vs)) (fun x y => scoV f vs y.toNat - scoV f vs x.toNat) w2 (w1.heap.size + 1) n n (iotaL n) hl (by omega) hBm Tryz.call144
    (fun x y => by unfold keyS; omega)
    (fun x y w' hx hy hO => by
      obtain ⟨i, hi⟩ := List.mem_iff_getElem?.1 hx
      obtain ⟨hi1, rfl⟩ := rowL_val hi
      obtain ⟨j, hj⟩ := List.mem_iff_getElem?.1 hy
      obtain ⟨hj1, rfl⟩ := rowL_val hj
      simp only [Int.toNat_natCast]
      exact srkOne w' w1.heap.size n (some ⟨b0, off0, none⟩) cv (scoV f vs) i j (hO.keep (by show w1.heap.size ≠ w1.heap.size + 1; omega) r0) (hO.rdI hRs2 (fun b off h => by injection h with h; injection h with h; omega)) hi1 hj1 (HBD.out i) (HBD.out j)))
  clear hB hBm r0 hRs2 hnil
  go_wp2_with fail
  refine HS.out.mono ?_
  rintro e w3 ⟨rfl, hB3, hO3⟩
  go_wp2
  go_ret
  refine ⟨_, rfl, hB3.wrI (by rw [srk_len]) (fun j x hx => memF_at hx) (by omega) (Nat.le_refl _), Only.ext hE3 hO3 (by omega)⟩

/-- Of the two first of the ranking the one that beats the other one, else the lesser. -/
def runV (n : Nat) (vs : List Vt) : Int :=
  if n = 1 then 0 else
  if beatsV vs (max ((srk (scoV pluW vs) n).getD 0 0) ((srk (scoV pluW vs) n).getD 1 0)) (min ((srk (scoV pluW vs) n).getD 0 0) ((srk (scoV pluW vs) n).getD 1 0)) then max ((srk (scoV pluW vs) n).getD 0 0) ((srk (scoV pluW vs) n).getD 1 0)
  else min ((srk (scoV pluW vs) n).getD 0 0) ((srk (scoV pluW vs) n).getD 1 0)
def runO (sz : Int) (vs : List Vt) : Int := if profOk sz vs then runV sz.toNat vs else -1
set_option maxRecDepth 100000 in
theorem run_one {n : Nat} {vs : List Vt} (h0 : profOk n vs = true) (hn : n = 1) : runO n vs = 0 := by simp only [runO, h0, if_true, runV, Int.toNat_natCast, if_pos hn]
set_option maxRecDepth 100000 in
theorem srk_nodup (sc : Nat → Int) (n : Nat) : (srk sc n).Nodup := by
  unfold srk
  rw [(sortD_perm (keyS sc) (iotaL n)).nodup_iff, iotaL_up]
  exact upL_nodup _ _
set_option maxRecDepth 100000 in
theorem run_two {n : Nat} {vs : List Vt} {x y : Int} (h0 : profOk n vs = true) (hn : n ≠ 1) (hx : (srk (scoV pluW vs) n)[0]? = some x) (hy : (srk (scoV pluW vs) n)[1]? = some y) :
    runO n vs = if beatsV vs (max x y) (min x y) then max x y else min x y := by
  have e1 : (srk (scoV pluW vs) n).getD 0 0 = x := by simp [List.getD, hx]
  have e2 : (srk (scoV pluW vs) n).getD 1 0 = y := by simp [List.getD, hy]
  simp only [runO, h0, if_true, runV, Int.toNat_natCast, if_neg hn, e1, e2]

set_option maxRecDepth 100000 in
set_option maxHeartbeats 4000000 in
theorem run_spec (w : World) (sz : Int) (a : Option Addr) (c : Nat) (vs : List Vt) (hR : RdV w a vs) :
    Calls Tryz.prog 180 #[.agg #[.int .i64 sz, .slice a vs.length c]] w fun e w' => e = .returned (.int .i64 (runO sz vs)) ∧ Ext w w' := by
  have q0 := new0 w (.int .i64 sz) [.slice a vs.length c] 29
  have q1 := new1 w (.int .i64 sz) (.slice a vs.length c) [] 29
  cases h0 : profOk sz vs
  · go_enter Tryz.func180, Tryz.ntmps180
    go_wp2_with (go_at_call 127; refine (prof_spec _ _ _ _ _ (hR.ext (by repeat (first | exact Ext.refl _ | assumption | refine Ext.alloc ?_ _ | refine Ext.drew ?_ | refine Ext.trans ?_ (by assumption))))).mono ?_; rintro e w1 ⟨rfl, hw1⟩; have q0 := Ext.keep (w' := w1) (by repeat (first | exact Ext.refl _ | assumption | refine Ext.alloc ?_ _ | refine Ext.drew ?_ | refine Ext.trans ?_ (by assumption))) q0; have q1 := Ext.keep (w' := w1) (by repeat (first | exact Ext.refl _ | assumption | refine Ext.alloc ?_ _ | refine Ext.drew ?_ | refine Ext.trans ?_ (by assumption))) q1)
    go_ret
    exact ⟨ret_int (by simp [runO, h0]), (by repeat (first | exact Ext.refl _ | assumption | refine Ext.alloc ?_ _ | refine Ext.drew ?_ | refine Ext.trans ?_ (by assumption)))⟩
  obtain ⟨n, rfl, n1, n2⟩ := prof_nat h0
  have HS := hide (prof_small h0)
  go_enter Tryz.func180, Tryz.ntmps180
  go_wp2_with (go_at_call 127; refine (prof_spec _ _ _ _ _ (hR.ext (by repeat (first | exact Ext.refl _ | assumption | refine Ext.alloc ?_ _ | refine Ext.drew ?_ | refine Ext.trans ?_ (by assumption))))).mono ?_; rintro e w1 ⟨rfl, hw1⟩; have q0 := Ext.keep (w' := w1) (by repeat (first | exact Ext.refl _ | assumption | refine Ext.alloc ?_ _ | refine Ext.drew ?_ | refine Ext.trans ?_ (by assumption))) q0; have q1 := Ext.keep (w' := w1) (by repeat (first | exact Ext.refl _ | assumption | refine Ext.alloc ?_ _ | refine Ext.drew ?_ | refine Ext.trans ?_ (by assumption))) q1)
  have hw : Ext w w1 := (by repeat (first | exact Ext.refl _ | assumption | refine Ext.alloc ?_ _ | refine Ext.drew ?_ | refine Ext.trans ?_ (by assumption)))
  refine wp_region_X (by kernel_rfl) (by kernel_rfl) ?_
  repeat' (refine wpX_stepQ (fun K hK => ?_)
           go_simp
           try (rw [if_neg (by intro h; simp [undef] at h)])
           try split
           all_goals
             first
             | (refine hK _ ?_
                clear hK K)
             | (apply Exists.intro
                refine ⟨fun wq hwq => ?_, hK _ ?_⟩
                · have hcq := hwq.cellS
                  go_simp
                  first
                  | exact ⟨Ext.refl _, rfl⟩
                clear hK K))
  refine wpX_stepS rfl (by kernel_rfl) (fun K hK wq hwq => ?_)
  go_simp
  refine (plu_spec _ n n1 n2).mono ?_
  rintro e w3 ⟨v, rfl, hv, hw3⟩
  refine ⟨hw3, hK _ _ ?_⟩
  clear hK K
  obtain ⟨av, cv, rfl, _, hRw, hju⟩ := hv.fr
  rw [rowL_len]
  have hw0 := hw.trans (hwq.trans hw3)
  have q0 := hw3.keep (hwq.keep q0)
  have q1 := hw3.keep (hwq.keep q1)
  obtain ⟨wb, hwb⟩ : ∃ wb : World, wb = w3 := ⟨_, rfl⟩
  subst hwb
  clear hw hwq hw3 hv hju
  refine wpX_stepS rfl (by kernel_rfl) (fun K hK wq hwq => ?_)
  go_simp
  refine (srk_spec _ _ a av c cv vs pluW n rfl (hR.ext (hw0.trans hwq)) (hRw.ext hwq) pluG h0).mono ?_
  rintro e w4 ⟨v, rfl, hv4, hw4⟩
  refine ⟨hw4, hK _ _ ?_⟩
  clear hK K
  obtain ⟨as', cs', rfl, _, hRs, hju⟩ := hv4.fr
  rw [srk_len]
  have hw := hw0.trans (hwq.trans hw4)
  have q0 := hw4.keep (hwq.keep q0)
  have q1 := hw4.keep (hwq.keep q1)
  clear hw0 hwq hw4 hv4 hju hRw
  repeat' (refine wpX_stepQ (fun K hK => ?_)
           go_simp
           try (rw [if_neg (by intro h; simp [undef] at h)])
           try split
           all_goals
             first
             | (refine hK _ ?_
                clear hK K)
             | (apply Exists.intro
                refine ⟨fun wq hwq => ?_, hK _ ?_⟩
                · have hcq := hwq.cellS
                  go_simp
                  first
                  | exact ⟨Ext.refl _, rfl⟩
                clear hK K))
  refine wpX_nil (fun wz hwz => ?_)
  have hw := hw.trans hwz
  have q0 := hwz.keep q0
  have q1 := hwz.keep q1
  have hRs := hRs.ext hwz
  obtain ⟨wc, hwc⟩ : ∃ wc : World, wc = wz := ⟨_, rfl⟩
  subst hwc
  clear hwz
  by_cases hn : n = 1
  · have hn1 : ((n : Int) == 1) = true := by rw [beq_iff_eq]; omega
    have HN := hide hn
    clear hn
    go_wp2
    go_ret
    exact ⟨ret_int (run_one h0 HN.out).symm, hw⟩
  · have hn1 : ((n : Int) == 1) = false := by rw [beq_eq_false_iff_ne]; omega
    have hl := srk_len (scoV pluW vs) n
    obtain ⟨x, hx⟩ := at_of_lt (xs := srk (scoV pluW vs) n) (k := 0) (by omega)
    obtain ⟨y, hy⟩ := at_of_lt (xs := srk (scoV pluW vs) n) (k := 1) (by omega)
    have HV := hide (run_two h0 hn hx hy)
    have hxy : x ≠ y := fun e => by
      rw [← e] at hy
      exact absurd (nodup_inj (srk_nodup _ _) hx hy) (by decide)
    obtain ⟨b, off, rfl, c0⟩ := hRs.at_ hx
    obtain ⟨b2, off2, hb, c1⟩ := hRs.at_ hy
    injection hb with hb
    injection hb with hb hb2
    subst hb
    subst hb2
    rw [Nat.add_zero] at c0
    have i1 : 0 < n := by omega
    have i2 : 1 < n := by omega
    have i3 : (1 : Int) < (n : Int) := by omega
    have i4 : (0 : Int) < (n : Int) := by omega
    clear hl hx hy
    rcases (show x < y ∨ y < x by omega) with hlt | hlt
    · have e1 : min x y = x := by omega
      have e2 : max x y = y := by omega
      rw [e1, e2] at HV
      clear e1 e2
      have t1 : ¬ y < x := by omega
      have t2 : x ≤ y := by omega
      have t3 : ¬ y ≤ x := by omega
      cases hb : beatsV vs y x
      all_goals
        go_wp2
        refine wp_region_X (by kernel_rfl) (by kernel_rfl) ?_
        repeat' (refine wpX_stepQ (fun K hK => ?_)
                 go_simp
                 try (rw [if_neg (by intro h; simp [undef] at h)])
                 try split
                 all_goals
                   first
                   | (refine hK _ ?_
                      clear hK K)
                   | (apply Exists.intro
                      refine ⟨fun wq hwq => ?_, hK _ ?_⟩
                      · have hcq := hwq.cellS
                        go_simp
                        first
                        | exact ⟨Ext.refl _, rfl⟩
                      clear hK K))
        all_goals try (exfalso; omega)
        refine wpX_nil (fun wz hwz => ?_)
        have hw := hw.trans hwz
        have q0 := hwz.keep q0
        have q1 := hwz.keep q1
        have c0 := hwz.keep c0
        have c1 := hwz.keep c1
        obtain ⟨wd, hwd⟩ : ∃ wd : World, wd = wz := ⟨_, rfl⟩
        subst hwd
        clear hwz
        go_wp2
        refine wp_region_X (by kernel_rfl) (by kernel_rfl) ?_
        repeat' (refine wpX_stepQ (fun K hK => ?_)
                 go_simp
                 try (rw [if_neg (by intro h; simp [undef] at h)])
                 try split
                 all_goals
                   first
                   | (refine hK _ ?_
                      clear hK K)
                   | (apply Exists.intro
                      refine ⟨fun wq hwq => ?_, hK _ ?_⟩
                      · have hcq := hwq.cellS
                        go_simp
                        first
                        | exact ⟨Ext.refl _, rfl⟩
                      clear hK K))
        all_goals try (exfalso; omega)
        refine wpX_nil (fun wz hwz => ?_)
        have hw := hw.trans hwz
        have q0 := hwz.keep q0
        have q1 := hwz.keep q1
        go_wp2_with (go_at_call 201; refine (beats_spec _ _ _ _ _ _ _ (hR.ext (by repeat (first | exact Ext.refl _ | assumption | refine Ext.alloc ?_ _ | refine Ext.drew ?_ | refine Ext.trans ?_ (by assumption)))) HS.out).mono ?_; rintro e w1 ⟨rfl, hw1⟩)
        go_ret
        rw [HV.out, hb]
        exact ⟨rfl, (by repeat (first | exact Ext.refl _ | assumption | refine Ext.alloc ?_ _ | refine Ext.drew ?_ | refine Ext.trans ?_ (by assumption)))⟩
    · have e1 : min x y = y := by omega
      have e2 : max x y = x := by omega
      rw [e1, e2] at HV
      clear e1 e2
      have t1 : ¬ x < y := by omega
      have t2 : y ≤ x := by omega
      have t3 : ¬ x ≤ y := by omega
      cases hb : beatsV vs x y
      all_goals
        go_wp2
        refine wp_region_X (by kernel_rfl) (by kernel_rfl) ?_
        repeat' (refine wpX_stepQ (fun K hK => ?_)
                 go_simp
                 try (rw [if_neg (by intro h; simp [undef] at h)])
                 try split
                 all_goals
                   first
                   | (refine hK _ ?_
                      clear hK K)
                   | (apply Exists.intro
                      refine ⟨fun wq hwq => ?_, hK _ ?_⟩
                      · have hcq := hwq.cellS
                        go_simp
                        first
                        | exact ⟨Ext.refl _, rfl⟩
                      clear hK K))
        all_goals try (exfalso; omega)
        refine wpX_nil (fun wz hwz => ?_)
        have hw := hw.trans hwz
        have q0 := hwz.keep q0
        have q1 := hwz.keep q1
        have c0 := hwz.keep c0
        have c1 := hwz.keep c1
        obtain ⟨wd, hwd⟩ : ∃ wd : World, wd = wz := ⟨_, rfl⟩
        subst hwd
        clear hwz
        go_wp2
        refine wp_region_X (by kernel_rfl) (by kernel_rfl) ?_
        repeat' (refine wpX_stepQ (fun K hK => ?_)
                 go_simp
                 try (rw [if_neg (by intro h; simp [undef] at h)])
                 try split
                 all_goals
                   first
                   | (refine hK _ ?_
                      clear hK K)
                   | (apply Exists.intro
                      refine ⟨fun wq hwq => ?_, hK _ ?_⟩
                      · have hcq := hwq.cellS
                        go_simp
                        first
                        | exact ⟨Ext.refl _, rfl⟩
                      clear hK K))
        all_goals try (exfalso; omega)
        refine wpX_nil (fun wz hwz => ?_)
        have hw := hw.trans hwz
        have q0 := hwz.keep q0
        have q1 := hwz.keep q1
        go_wp2_with (go_at_call 201; refine (beats_spec _ _ _ _ _ _ _ (hR.ext (by repeat (first | exact Ext.refl _ | assumption | refine Ext.alloc ?_ _ | refine Ext.drew ?_ | refine Ext.trans ?_ (by assumption)))) HS.out).mono ?_; rintro e w1 ⟨rfl, hw1⟩)
        go_ret
        rw [HV.out, hb]
        exact ⟨rfl, (by repeat (first | exact Ext.refl _ | assumption | refine Ext.alloc ?_ _ | refine Ext.drew ?_ | refine Ext.trans ?_ (by assumption)))⟩

set_option maxRecDepth 100000 in
set_option maxHeartbeats 4000000 in
theorem run_impl (w : World) (sz : Int) (a : Option Addr) (c : Nat) (vs : List Vt) (hR : RdV w a vs) :
    Calls Tryz.prog 44 #[.agg #[.int .i64 sz, .slice a vs.length c]] w fun e w' => e = .returned (.int .i64 (runO sz vs)) ∧ Ext w w' := by
  have q0 := new0 w (.int .i64 sz) [.slice a vs.length c] 29
  have q1 := new1 w (.int .i64 sz) (.slice a vs.length c) [] 29
  cases h0 : profOk sz vs
  · go_enter Tryz.func44, Tryz.ntmps44
    go_wp2_with (go_at_call 36; refine (prof_impl _ _ _ _ _ (hR.ext (by repeat (first | exact Ext.refl _ | assumption | refine Ext.alloc ?_ _ | refine Ext.drew ?_ | refine Ext.trans ?_ (by assumption))))).mono ?_; rintro e w1 ⟨rfl, hw1⟩; have q0 := Ext.keep (w' := w1) (by repeat (first | exact Ext.refl _ | assumption | refine Ext.alloc ?_ _ | refine Ext.drew ?_ | refine Ext.trans ?_ (by assumption))) q0; have q1 := Ext.keep (w' := w1) (by repeat (first | exact Ext.refl _ | assumption | refine Ext.alloc ?_ _ | refine Ext.drew ?_ | refine Ext.trans ?_ (by assumption))) q1)
    go_ret
    exact ⟨ret_int (by simp [runO, h0]), (by repeat (first | exact Ext.refl _ | assumption | refine Ext.alloc ?_ _ | refine Ext.drew ?_ | refine Ext.trans ?_ (by assumption)))⟩
  obtain ⟨n, rfl, n1, n2⟩ := prof_nat h0
  have HS := hide (prof_small h0)
  by_cases hn : n = 1
  · have hn1 : ((n : Int) == 1) = true := by rw [beq_iff_eq]; omega
    have HN := hide hn
    clear hn
    go_enter Tryz.func44, Tryz.ntmps44
    go_wp2_with (go_at_call 36; refine (prof_impl _ _ _ _ _ (hR.ext (by repeat (first | exact Ext.refl _ | assumption | refine Ext.alloc ?_ _ | refine Ext.drew ?_ | refine Ext.trans ?_ (by assumption))))).mono ?_; rintro e w1 ⟨rfl, hw1⟩; have q0 := Ext.keep (w' := w1) (by repeat (first | exact Ext.refl _ | assumption | refine Ext.alloc ?_ _ | refine Ext.drew ?_ | refine Ext.trans ?_ (by assumption))) q0; have q1 := Ext.keep (w' := w1) (by repeat (first | exact Ext.refl _ | assumption | refine Ext.alloc ?_ _ | refine Ext.drew ?_ | refine Ext.trans ?_ (by assumption))) q1)
    go_ret
    exact ⟨ret_int (run_one h0 HN.out).symm, (by repeat (first | exact Ext.refl _ | assumption | refine Ext.alloc ?_ _ | refine Ext.drew ?_ | refine Ext.trans ?_ (by assumption)))⟩
  have hn1 : ((n : Int) == 1) = false := by rw [beq_eq_false_iff_ne]; omega
  have hin : inR (n : Int) 1 5 = true := inR_iff.2 (by omega)
  go_enter Tryz.func44, Tryz.ntmps44
  go_wp2_with (go_at_call 36; refine (prof_impl _ _ _ _ _ (hR.ext (by repeat (first | exact Ext.refl _ | assumption | refine Ext.alloc ?_ _ | refine Ext.drew ?_ | refine Ext.trans ?_ (by assumption))))).mono ?_; rintro e w1 ⟨rfl, hw1⟩; have q0 := Ext.keep (w' := w1) (by repeat (first | exact Ext.refl _ | assumption | refine Ext.alloc ?_ _ | refine Ext.drew ?_ | refine Ext.trans ?_ (by assumption))) q0; have q1 := Ext.keep (w' := w1) (by repeat (first | exact Ext.refl _ | assumption | refine Ext.alloc ?_ _ | refine Ext.drew ?_ | refine Ext.trans ?_ (by assumption))) q1)
  have hw : Ext w w1 := (by repeat (first | exact Ext.refl _ | assumption | refine Ext.alloc ?_ _ | refine Ext.drew ?_ | refine Ext.trans ?_ (by assumption)))
  refine wp_region_X (by kernel_rfl) (by kernel_rfl) ?_
  repeat' (refine wpX_stepQ (fun K hK => ?_)
           go_simp
           try (rw [if_neg (by intro h; simp [undef] at h)])
           try split
           all_goals
             first
             | (refine hK _ ?_
                clear hK K)
             | (apply Exists.intro
                refine ⟨fun wq hwq => ?_, hK _ ?_⟩
                · have hcq := hwq.cellS
                  go_simp
                  first
                  | exact ⟨Ext.refl _, rfl⟩
                clear hK K))
  refine wpX_stepS rfl (by kernel_rfl) (fun K hK wq hwq => ?_)
  go_simp
  refine (plu_impl _ n).mono ?_
  rintro e w3 ⟨v, rfl, hv, hw3⟩
  refine ⟨hw3, hK _ _ ?_⟩
  clear hK K
  have hv := hv n rfl hin
  obtain ⟨av, cv, rfl, _, hRw, hju⟩ := hv.fr
  rw [rowL_len]
  have hw0 := hw.trans (hwq.trans hw3)
  have q0 := hw3.keep (hwq.keep q0)
  have q1 := hw3.keep (hwq.keep q1)
  obtain ⟨wb, hwb⟩ : ∃ wb : World, wb = w3 := ⟨_, rfl⟩
  subst hwb
  clear hw hwq hw3 hv hju
  refine wpX_stepS rfl (by kernel_rfl) (fun K hK wq hwq => ?_)
  go_simp
  refine (srk_impl _ _ a av c cv vs pluW n rfl (hR.ext (hw0.trans hwq)) (hRw.ext hwq) pluG h0).mono ?_
  rintro e w4 ⟨v, rfl, hv4, hw4⟩
  refine ⟨hw4, hK _ _ ?_⟩
  clear hK K
  obtain ⟨as', cs', rfl, _, hRs, hju⟩ := hv4.fr
  rw [srk_len]
  have hw := hw0.trans (hwq.trans hw4)
  have q0 := hw4.keep (hwq.keep q0)
  have q1 := hw4.keep (hwq.keep q1)
  clear hw0 hwq hw4 hv4 hju hRw
  repeat' (refine wpX_stepQ (fun K hK => ?_)
           go_simp
           try (rw [if_neg (by intro h; simp [undef] at h)])
           try split
           all_goals
             first
             | (refine hK _ ?_
                clear hK K)
             | (apply Exists.intro
                refine ⟨fun wq hwq => ?_, hK _ ?_⟩
                · have hcq := hwq.cellS
                  go_simp
                  first
                  | exact ⟨Ext.refl _, rfl⟩
                clear hK K))
  refine wpX_nil (fun wz hwz => ?_)
  have hw := hw.trans hwz
  have q0 := hwz.keep q0
  have q1 := hwz.keep q1
  have hRs := hRs.ext hwz
  obtain ⟨wc, hwc⟩ : ∃ wc : World, wc = wz := ⟨_, rfl⟩
  subst hwc
  clear hwz
  have hl := srk_len (scoV pluW vs) n
  obtain ⟨x, hx⟩ := at_of_lt (xs := srk (scoV pluW vs) n) (k := 0) (by omega)
  obtain ⟨y, hy⟩ := at_of_lt (xs := srk (scoV pluW vs) n) (k := 1) (by omega)
  have HV := hide (run_two h0 hn hx hy)
  have hxy : x ≠ y := fun e => by
    rw [← e] at hy
    exact absurd (nodup_inj (srk_nodup _ _) hx hy) (by decide)
  obtain ⟨b, off, rfl, c0⟩ := hRs.at_ hx
  obtain ⟨b2, off2, hb, c1⟩ := hRs.at_ hy
  injection hb with hb
  injection hb with hb hb2
  subst hb
  subst hb2
  rw [Nat.add_zero] at c0
  have i1 : 0 < n := by omega
  have i2 : 1 < n := by omega
  have i3 : (1 : Int) < (n : Int) := by omega
  have i4 : (0 : Int) < (n : Int) := by omega
  clear hl hx hy
  rcases (show x < y ∨ y < x by omega) with hlt | hlt
  · have e1 : min x y = x := by omega
    have e2 : max x y = y := by omega
    rw [e1, e2] at HV
    clear e1 e2
    have t1 : ¬ y < x := by omega
    have t2 : x ≤ y := by omega
    have t3 : ¬ y ≤ x := by omega
    cases hb : beatsV vs y x
    all_goals
      go_wp2
      refine wp_region_X (by kernel_rfl) (by kernel_rfl) ?_
      repeat' (refine wpX_stepQ (fun K hK => ?_)
               go_simp
               try (rw [if_neg (by intro h; simp [undef] at h)])
               try split
               all_goals
                 first
                 | (refine hK _ ?_
                    clear hK K)
                 | (apply Exists.intro
                    refine ⟨fun wq hwq => ?_, hK _ ?_⟩
                    · have hcq := hwq.cellS
                      go_simp
                      first
                      | exact ⟨Ext.refl _, rfl⟩
                    clear hK K))
      all_goals try (exfalso; omega)
      refine wpX_nil (fun wz hwz => ?_)
      have hw := hw.trans hwz
      have q0 := hwz.keep q0
      have q1 := hwz.keep q1
      go_wp2_with (go_at_call 93; refine (beats_impl _ _ _ _ _ _ _ (hR.ext (by repeat (first | exact Ext.refl _ | assumption | refine Ext.alloc ?_ _ | refine Ext.drew ?_ | refine Ext.trans ?_ (by assumption)))) HS.out).mono ?_; rintro e w1 ⟨rfl, hw1⟩)
      go_ret
      rw [HV.out, hb]
      exact ⟨rfl, (by repeat (first | exact Ext.refl _ | assumption | refine Ext.alloc ?_ _ | refine Ext.drew ?_ | refine Ext.trans ?_ (by assumption)))⟩
  · have e1 : min x y = y := by omega
    have e2 : max x y = x := by omega
    rw [e1, e2] at HV
    clear e1 e2
    have t1 : ¬ x < y := by omega
    have t2 : y ≤ x := by omega
    have t3 : ¬ x ≤ y := by omega
    cases hb : beatsV vs x y
    all_goals
      go_wp2
      refine wp_region_X (by kernel_rfl) (by kernel_rfl) ?_
      repeat' (refine wpX_stepQ (fun K hK => ?_)
               go_simp
               try (rw [if_neg (by intro h; simp [undef] at h)])
               try split
               all_goals
                 first
                 | (refine hK _ ?_
                    clear hK K)
                 | (apply Exists.intro
                    refine ⟨fun wq hwq => ?_, hK _ ?_⟩
                    · have hcq := hwq.cellS
                      go_simp
                      first
                      | exact ⟨Ext.refl _, rfl⟩
                    clear hK K))
      all_goals try (exfalso; omega)
      refine wpX_nil (fun wz hwz => ?_)
      have hw := hw.trans hwz
      have q0 := hwz.keep q0
      have q1 := hwz.keep q1
      go_wp2_with (go_at_call 93; refine (beats_impl _ _ _ _ _ _ _ (hR.ext (by repeat (first | exact Ext.refl _ | assumption | refine Ext.alloc ?_ _ | refine Ext.drew ?_ | refine Ext.trans ?_ (by assumption)))) HS.out).mono ?_; rintro e w1 ⟨rfl, hw1⟩)
      go_ret
      rw [HV.out, hb]
      exact ⟨rfl, (by repeat (first | exact Ext.refl _ | assumption | refine Ext.alloc ?_ _ | refine Ext.drew ?_ | refine Ext.trans ?_ (by assumption)))⟩

def worF (vs : List Vt) (left : List Int) (x : Int) : Int := sumV (fsP left x) vs
def worL (vs : List Vt) (left : List Int) (x : Int) : Int := -sumV (lsP left x) vs
def worP (vs : List Vt) (left : List Int) (x : Int) : Int := (left.map (fun b => pairV vs x b)).sum

set_option maxRecDepth 100000 in
theorem pairs_bd {sz : Int} {vs : List Vt} (hS : SmallV sz vs) (x : Int) : ∀ left : List Int, 0 ≤ (left.map (fun b => pairV vs x b)).sum ∧ (left.map (fun b => pairV vs x b)).sum ≤ 24000 * left.length
  | [] => by simp
  | b :: left => by
    have h1 := pairs_bd hS x left
    have h2 : 0 ≤ pairV vs x b ∧ pairV vs x b ≤ 24000 := sumV_bd' hS
    simp only [List.map_cons, List.sum_cons, List.length_cons]
    omega

set_option maxRecDepth 100000 in
set_option maxHeartbeats 1000000 in
theorem instOne (w : World) (gp : Nat) (n : Nat) (a al : Option Addr) (c cl : Nat) (vs : List Vt) (left : List Int) (x : Int) (hR : RdV w a vs) (hS : SmallV n vs) (hL : RdI w al left) (hll : left.length ≤ 2000000)
    (h0 : w.cell? ⟨gp, 0, none⟩ = some (.int .i64 n)) (h1 : w.cell? ⟨gp, 1, none⟩ = some (.slice a vs.length c)) :
    Calls Tryz.prog 95 #[.slice al left.length cl, .int .i64 x, .pointer (some ⟨gp, 0, none⟩)] w fun e w' => e = .returned (.int .i64 (worF vs left x)) ∧ Ext w w' := by
  go_enter Tryz.func95, Tryz.ntmps95
  go_wp2_with (go_at_call 96; refine (first_impl _ _ _ _ _ _ _ _ _ (hR.ext (by repeat (first | exact Ext.refl _ | assumption | refine Ext.alloc ?_ _ | refine Ext.drew ?_ | refine Ext.trans ?_ (by assumption)))) hS (hL.ext (by repeat (first | exact Ext.refl _ | assumption | refine Ext.alloc ?_ _ | refine Ext.drew ?_ | refine Ext.trans ?_ (by assumption)))) hll).mono ?_; rintro e w1 ⟨rfl, hw1⟩)
  go_ret
  exact ⟨rfl, (by repeat (first | exact Ext.refl _ | assumption | refine Ext.alloc ?_ _ | refine Ext.drew ?_ | refine Ext.trans ?_ (by assumption)))⟩

set_option maxRecDepth 100000 in
set_option maxHeartbeats 1000000 in
theorem coomOne (w : World) (gp : Nat) (n : Nat) (a al : Option Addr) (c cl : Nat) (vs : List Vt) (left : List Int) (x : Int) (hR : RdV w a vs) (hS : SmallV n vs) (hL : RdI w al left) (hll : left.length ≤ 2000000)
    (h0 : w.cell? ⟨gp, 0, none⟩ = some (.int .i64 n)) (h1 : w.cell? ⟨gp, 1, none⟩ = some (.slice a vs.length c)) :
    Calls Tryz.prog 97 #[.slice al left.length cl, .int .i64 x, .pointer (some ⟨gp, 0, none⟩)] w fun e w' => e = .returned (.int .i64 (worL vs left x)) ∧ Ext w w' := by
  have hb : 0 ≤ sumV (lsP left x) vs ∧ sumV (lsP left x) vs ≤ 24000 := sumV_bd' hS
  have y1 : wrap64 (-sumV (lsP left x) vs) = -sumV (lsP left x) vs := IntWalk.wrap64_in _ (by omega)
  have y2 : IntKind.i64.wrap (-sumV (lsP left x) vs) = -sumV (lsP left x) vs := IntWalk.i64_in _ (by omega)
  clear hb
  go_enter Tryz.func97, Tryz.ntmps97
  go_wp2_with (go_at_call 98; refine (last_impl _ _ _ _ _ _ _ _ _ (hR.ext (by repeat (first | exact Ext.refl _ | assumption | refine Ext.alloc ?_ _ | refine Ext.drew ?_ | refine Ext.trans ?_ (by assumption)))) hS (hL.ext (by repeat (first | exact Ext.refl _ | assumption | refine Ext.alloc ?_ _ | refine Ext.drew ?_ | refine Ext.trans ?_ (by assumption)))) hll).mono ?_; rintro e w1 ⟨rfl, hw1⟩)
  go_ret
  exact ⟨rfl, (by repeat (first | exact Ext.refl _ | assumption | refine Ext.alloc ?_ _ | refine Ext.drew ?_ | refine Ext.trans ?_ (by assumption)))⟩

set_option maxRecDepth 100000 in
set_option maxHeartbeats 1000000 in
theorem baldOne (w : World) (gp : Nat) (n : Nat) (a al : Option Addr) (c cl : Nat) (vs : List Vt) (left : List Int) (x : Int) (hR : RdV w a vs) (hS : SmallV n vs) (hL : RdI w al left) (hll : left.length ≤ 5)
    (h0 : w.cell? ⟨gp, 0, none⟩ = some (.int .i64 n)) (h1 : w.cell? ⟨gp, 1, none⟩ = some (.slice a vs.length c)) :
    Calls Tryz.prog 99 #[.slice al left.length cl, .int .i64 x, .pointer (some ⟨gp, 0, none⟩)] w fun e w' => e = .returned (.int .i64 (worP vs left x)) ∧ Ext w w' := by
  have HS := hide hS
  clear hS
  go_enter Tryz.func99, Tryz.ntmps99
  go_wp2_with fail
  go_loopw [6, 8, 11] (fun s _ i wr => ∃ k : Nat, k ≤ left.length ∧ i = .int .i64 k ∧ s = .int .i64 (worP vs (left.take k) x) ∧ Ext w wr) (fun _ _ i _ => left.length - (intOf i).toNat)
  case atStart => exact ⟨0, Nat.zero_le _, rfl, rfl, Ext.refl _⟩
  case round =>
    obtain ⟨k, hk, rfl, rfl, hwr⟩ := hrel
    have r0 := hwr.keep h0
    have r1 := hwr.keep h1
    by_cases hlt : k < left.length
    · obtain ⟨b, hb⟩ := at_of_lt hlt
      obtain ⟨bb, off, rfl, d0⟩ := (hL.ext hwr).at_ hb
      have b1 := pairs_bd HS.out x (left.take k)
      rw [List.length_take] at b1
      have b2 : 0 ≤ pairV vs x b ∧ pairV vs x b ≤ 24000 := sumV_bd' HS.out
      have b3 : worP vs (left.take (k + 1)) x = worP vs (left.take k) x + pairV vs x b := by unfold worP; rw [take_at hb]; simp
      have b4 : 0 ≤ worP vs (left.take k) x ∧ worP vs (left.take k) x ≤ 120000 := by unfold worP; omega
      have HB := hide b3
      clear b1 b3 hb
      go_wp2_with (go_at_call 91; refine (pairI_impl _ _ _ _ _ _ _ ((hR.ext hwr).ext (by repeat (first | exact Ext.refl _ | assumption | refine Ext.alloc ?_ _ | refine Ext.drew ?_ | refine Ext.trans ?_ (by assumption)))) HS.out).mono ?_; rintro e w1 ⟨rfl, hw1⟩)
      exact ⟨⟨k + 1, by omega, by go_num, by rw [HB.out], (by repeat (first | exact Ext.refl _ | assumption | refine Ext.alloc ?_ _ | refine Ext.drew ?_ | refine Ext.trans ?_ (by assumption)))⟩, by simp [intOf]; omega⟩
    · go_wp2
      go_ret
      exact ⟨ret_int (by rw [List.take_of_length_le (by omega)]), hwr⟩

set_option maxRecDepth 100000 in
set_option maxHeartbeats 1000000 in
theorem inst_impl (w : World) (sz : Int) (a : Option Addr) (c : Nat) (vs : List Vt) (hR : RdV w a vs) :
    Calls Tryz.prog 46 #[.agg #[.int .i64 sz, .slice a vs.length c]] w fun e w' => ∃ v, e = .returned v ∧ OwnI w' w.heap.size v (elimO sz vs (worF vs)) ∧ Ext w w' := by
  have q0 := new0 w (.int .i64 sz) [.slice a vs.length c] 29
  have q1 := new1 w (.int .i64 sz) (.slice a vs.length c) [] 29
  go_enter Tryz.func46, Tryz.ntmps46
  go_wp2_with fail
  refine (elim_impl 95 #[.pointer (some ⟨w.heap.size, 0, none⟩)] (worF vs) _ sz a c vs (hR.ext (by repeat (first | exact Ext.refl _ | assumption | refine Ext.alloc ?_ _ | refine Ext.drew ?_ | refine Ext.trans ?_ (by assumption)))) Tryz.call95 (fun n left x al cl w' hn hn5 hS _ hll _ hw' hL => ?_)).mono ?_
  · subst hn
    exact instOne w' w.heap.size n a al c cl vs left x (hR.ext ((Ext.new w _).trans hw')) hS hL (by omega) (hw'.keep q0) (hw'.keep q1)
  rintro e w1 ⟨v, rfl, hv, hw1⟩
  go_wp2
  go_ret
  exact ⟨_, rfl, hv.base (Ext.size (by repeat (first | exact Ext.refl _ | assumption | refine Ext.alloc ?_ _ | refine Ext.drew ?_ | refine Ext.trans ?_ (by assumption)))), (by repeat (first | exact Ext.refl _ | assumption | refine Ext.alloc ?_ _ | refine Ext.drew ?_ | refine Ext.trans ?_ (by assumption)))⟩

set_option maxRecDepth 100000 in
set_option maxHeartbeats 1000000 in
theorem coom_impl (w : World) (sz : Int) (a : Option Addr) (c : Nat) (vs : List Vt) (hR : RdV w a vs) :
    Calls Tryz.prog 47 #[.agg #[.int .i64 sz, .slice a vs.length c]] w fun e w' => ∃ v, e = .returned v ∧ OwnI w' w.heap.size v (elimO sz vs (worL vs)) ∧ Ext w w' := by
  have q0 := new0 w (.int .i64 sz) [.slice a vs.length c] 29
  have q1 := new1 w (.int .i64 sz) (.slice a vs.length c) [] 29
  go_enter Tryz.func47, Tryz.ntmps47
  go_wp2_with fail
  refine (elim_impl 97 #[.pointer (some ⟨w.heap.size, 0, none⟩)] (worL vs) _ sz a c vs (hR.ext (by repeat (first | exact Ext.refl _ | assumption | refine Ext.alloc ?_ _ | refine Ext.drew ?_ | refine Ext.trans ?_ (by assumption)))) Tryz.call97 (fun n left x al cl w' hn hn5 hS _ hll _ hw' hL => ?_)).mono ?_
  · subst hn
    exact coomOne w' w.heap.size n a al c cl vs left x (hR.ext ((Ext.new w _).trans hw')) hS hL (by omega) (hw'.keep q0) (hw'.keep q1)
  rintro e w1 ⟨v, rfl, hv, hw1⟩
  go_wp2
  go_ret
  exact ⟨_, rfl, hv.base (Ext.size (by repeat (first | exact Ext.refl _ | assumption | refine Ext.alloc ?_ _ | refine Ext.drew ?_ | refine Ext.trans ?_ (by assumption)))), (by repeat (first | exact Ext.refl _ | assumption | refine Ext.alloc ?_ _ | refine Ext.drew ?_ | refine Ext.trans ?_ (by assumption)))⟩

set_option maxRecDepth 100000 in
set_option maxHeartbeats 1000000 in
theorem bald_impl (w : World) (sz : Int) (a : Option Addr) (c : Nat) (vs : List Vt) (hR : RdV w a vs) :
    Calls Tryz.prog 48 #[.agg #[.int .i64 sz, .slice a vs.length c]] w fun e w' => ∃ v, e = .returned v ∧ OwnI w' w.heap.size v (elimO sz vs (worP vs)) ∧ Ext w w' := by
  have q0 := new0 w (.int .i64 sz) [.slice a vs.length c] 29
  have q1 := new1 w (.int .i64 sz) (.slice a vs.length c) [] 29
  go_enter Tryz.func48, Tryz.ntmps48
  go_wp2_with fail
  refine (elim_impl 99 #[.pointer (some ⟨w.heap.size, 0, none⟩)] (worP vs) _ sz a c vs (hR.ext (by repeat (first | exact Ext.refl _ | assumption | refine Ext.alloc ?_ _ | refine Ext.drew ?_ | refine Ext.trans ?_ (by assumption)))) Tryz.call99 (fun n left x al cl w' hn hn5 hS _ hll _ hw' hL => ?_)).mono ?_
  · subst hn
    exact baldOne w' w.heap.size n a al c cl vs left x (hR.ext ((Ext.new w _).trans hw')) hS hL (by omega) (hw'.keep q0) (hw'.keep q1)
  rintro e w1 ⟨v, rfl, hv, hw1⟩
  go_wp2
  go_ret
  exact ⟨_, rfl, hv.base (Ext.size (by repeat (first | exact Ext.refl _ | assumption | refine Ext.alloc ?_ _ | refine Ext.drew ?_ | refine Ext.trans ?_ (by assumption)))), (by repeat (first | exact Ext.refl _ | assumption | refine Ext.alloc ?_ _ | refine Ext.drew ?_ | refine Ext.trans ?_ (by assumption)))⟩

set_option maxRecDepth 100000 in
set_option maxHeartbeats 1000000 in
theorem out_spec (w : World) (a : Option Addr) (c : Nat) (out : List Int) (x : Int) (hR : RdI w a out) (hl : out.length ≤ 2000000) :
    Calls Tryz.prog 207 #[.slice a out.length c, .int .i64 x] w fun e w' => e = .returned (.bool (hasI out x)) ∧ Ext w w' := by
  have he : decide (0 ≤ placeI out x) = hasI out x := by
    unfold placeI
    rw [findI_nonneg, Bool.eq_iff_iff, List.any_eq_true, hasI_iff]
    constructor
    · rintro ⟨y, hy, h⟩
      have : x = y := by simpa using h
      subst this; exact hy
    · intro h; exact ⟨x, h, by simp⟩
  go_enter Tryz.func207, Tryz.ntmps207
  go_wp2_with (go_at_call 130; refine (place_spec _ _ _ _ _ (hR.ext (by repeat (first | exact Ext.refl _ | assumption | refine Ext.alloc ?_ _ | refine Ext.drew ?_ | refine Ext.trans ?_ (by assumption)))) hl).mono ?_; rintro e w1 ⟨rfl, hw1⟩)
  go_ret
  exact ⟨rfl, (by repeat (first | exact Ext.refl _ | assumption | refine Ext.alloc ?_ _ | refine Ext.drew ?_ | refine Ext.trans ?_ (by assumption)))⟩

def numC (out : List Int) (x : Int) (last : Bool) (r : List Int) (b : Nat) : Bool := (((b : Int) == x) || hasI out b) || (prefB r x b != last)
def numP (n : Nat) (out : List Int) (x : Int) (last : Bool) (r : List Int) : Bool := allN n (numC out x last r)

set_option maxRecDepth 100000 in
set_option maxHeartbeats 4000000 in
theorem num_spec (w : World) (n : Nat) (a ao : Option Addr) (c co : Nat) (vs : List Vt) (out : List Int) (x : Int) (last : Bool) (hR : RdV w a vs) (hS : SmallV n vs) (n2 : n ≤ 5) (hO : RdI w ao out) (hol : out.length ≤ 2000000) :
    Calls Tryz.prog 220 #[.agg #[.int .i64 n, .slice a vs.length c], .slice ao out.length co, .int .i64 x, .bool last] w fun e w' => e = .returned (.int .i64 (sumV (numP n out x last) vs)) ∧ Ext w w' := by
  have HS := hide hS
  have hvl := hS.1
  clear hS
  have q0 := new0 w (.int .i64 n) [.slice a vs.length c] 29
  have q1 := new1 w (.int .i64 n) (.slice a vs.length c) [] 29
  go_enter Tryz.func220, Tryz.ntmps220
  go_wp2_with fail
  have h10 := Ext.new w (.cells #[.int .i64 n, .slice a vs.length c] 29)
  generalize w.alloc (.cells #[.int .i64 n, .slice a vs.length c] 29) = W0 at h10 q0 q1 ⊢
  have hR0 := hR.ext h10
  have hO0 := hO.ext h10
  go_loopw [9, 11, 12, 13, 17] (fun s _ _ _ i wr => ∃ k : Nat, k ≤ vs.length ∧ i = .int .i64 k ∧ s = .int .i64 (sumV (numP n out x last) (vs.take k)) ∧ Ext W0 wr) (fun _ _ _ _ i _ => vs.length - (intOf i).toNat)
  case atStart => exact ⟨0, Nat.zero_le _, rfl, rfl, Ext.refl _⟩
  case round =>
    obtain ⟨k, hk, rfl, rfl, hwr⟩ := hrel
    by_cases hlt : k < vs.length
    · obtain ⟨v, hx⟩ := at_of_lt hlt
      obtain ⟨b, off, a', c', rfl, c0, c1, hc', hRx⟩ := (hR0.ext hwr).at_ hx
      obtain ⟨x0, x1, x2⟩ := HS.out.2 v (List.mem_of_getElem? hx)
      have hxl := (rk_len x0).2
      obtain ⟨s1, s2⟩ := sumV_bd HS.out k hk (p := numP n out x last)
      have HX := hide hx
      clear hx x0
      have e0 := new0 wr (.slice a' v.1.length c') [.int .i64 v.2] 55
      have e1 := new1 wr (.slice a' v.1.length c') (.int .i64 v.2) [] 55
      have hE := Ext.new wr (.cells #[.slice a' v.1.length c', .int .i64 v.2] 55)
      go_wp2_with fail
      obtain ⟨gb, hgb⟩ : ∃ gb : Nat, gb = wr.heap.size := ⟨_, rfl⟩
      rw [← hgb] at e0 e1 ⊢
      clear hgb
      generalize wr.alloc (.cells #[.slice a' v.1.length c', .int .i64 v.2] 55) = W1 at e0 e1 hE ⊢
      have hRx := hRx.ext hE
      have hwr := hwr.trans hE
      clear c0 c1 hE
      go_loopw [12, 13] (fun g i wr => ∃ j : Nat, j ≤ n ∧ i = .int .i64 j ∧ g = .bool (allN j (numC out x last v.1)) ∧ Ext W1 wr) (fun _ i _ => n - (intOf i).toNat)
      case atStart => exact ⟨0, Nat.zero_le _, rfl, rfl, Ext.refl _⟩
      case round =>
        obtain ⟨j, hj, rfl, rfl, hwr'⟩ := hrel
        have r0 := (hwr.trans hwr').keep q0
        have e0 := hwr'.keep e0
        have hOr := hO0.ext (hwr.trans hwr')
        have hRr := hRx.ext hwr'
        by_cases hjt : j < n
        · by_cases hb : (j : Int) = x
          · have hb' : ((j : Int) == x) = true := by simpa using hb
            have hc : numC out x last v.1 j = true := by unfold numC; rw [hb']; simp
            have HC := hide hc
            clear hb hc
            go_wp2
            exact ⟨⟨j + 1, by omega, by go_num, by rw [allN_succ, HC.out]; simp, (by repeat (first | exact Ext.refl _ | assumption | refine Ext.alloc ?_ _ | refine Ext.drew ?_ | refine Ext.trans ?_ (by assumption)))⟩, by simp [intOf]; omega⟩
          · have hb' : ((j : Int) == x) = false := by simpa using hb
            have hb2 : ¬ ((j : Int) = x) := hb
            cases ho : hasI out (j : Int)
            · cases hg : allN j (numC out x last v.1)
              · go_wp2_with (go_at_call 207; refine (out_spec _ _ _ _ _ (hOr.ext (by repeat (first | exact Ext.refl _ | assumption | refine Ext.alloc ?_ _ | refine Ext.drew ?_ | refine Ext.trans ?_ (by assumption)))) hol).mono ?_; rintro e w1 ⟨rfl, hw1⟩; have r0 := Ext.keep (w' := w1) (by repeat (first | exact Ext.refl _ | assumption | refine Ext.alloc ?_ _ | refine Ext.drew ?_ | refine Ext.trans ?_ (by assumption))) r0; have e0 := Ext.keep (w' := w1) (by repeat (first | exact Ext.refl _ | assumption | refine Ext.alloc ?_ _ | refine Ext.drew ?_ | refine Ext.trans ?_ (by assumption))) e0)
                exact ⟨⟨j + 1, by omega, by go_num, by rw [allN_succ, hg]; rfl, (by repeat (first | exact Ext.refl _ | assumption | refine Ext.alloc ?_ _ | refine Ext.drew ?_ | refine Ext.trans ?_ (by assumption)))⟩, by simp [intOf]; omega⟩
              · have hc : numC out x last v.1 j = (prefB v.1 x j != last) := by unfold numC; rw [hb', ho]; simp
                have HC := hide hc
                clear hc
                go_wp2_with (first | (go_at_call 207; refine (out_spec _ _ _ _ _ (hOr.ext (by repeat (first | exact Ext.refl _ | assumption | refine Ext.alloc ?_ _ | refine Ext.drew ?_ | refine Ext.trans ?_ (by assumption)))) hol).mono ?_; rintro e w1 ⟨rfl, hw1⟩; have r0 := Ext.keep (w' := w1) (by repeat (first | exact Ext.refl _ | assumption | refine Ext.alloc ?_ _ | refine Ext.drew ?_ | refine Ext.trans ?_ (by assumption))) r0; have e0 := Ext.keep (w' := w1) (by repeat (first | exact Ext.refl _ | assumption | refine Ext.alloc ?_ _ | refine Ext.drew ?_ | refine Ext.trans ?_ (by assumption))) e0) | (go_at_call 71; refine (pref_spec _ _ _ _ _ _ (hRr.ext (by repeat (first | exact Ext.refl _ | assumption | refine Ext.alloc ?_ _ | refine Ext.drew ?_ | refine Ext.trans ?_ (by assumption)))) (by omega)).mono ?_; rintro e w1 ⟨rfl, hw1⟩; have r0 := Ext.keep (w' := w1) (by repeat (first | exact Ext.refl _ | assumption | refine Ext.alloc ?_ _ | refine Ext.drew ?_ | refine Ext.trans ?_ (by assumption))) r0; have e0 := Ext.keep (w' := w1) (by repeat (first | exact Ext.refl _ | assumption | refine Ext.alloc ?_ _ | refine Ext.drew ?_ | refine Ext.trans ?_ (by assumption))) e0))
                exact ⟨⟨j + 1, by omega, by go_num, by rw [allN_succ, hg, HC.out]; cases prefB v.1 x j <;> cases last <;> rfl, (by repeat (first | exact Ext.refl _ | assumption | refine Ext.alloc ?_ _ | refine Ext.drew ?_ | refine Ext.trans ?_ (by assumption)))⟩, by simp [intOf]; omega⟩
            · have hc : numC out x last v.1 j = true := by unfold numC; rw [ho]; simp
              have HC := hide hc
              clear hc
              go_wp2_with (go_at_call 207; refine (out_spec _ _ _ _ _ (hOr.ext (by repeat (first | exact Ext.refl _ | assumption | refine Ext.alloc ?_ _ | refine Ext.drew ?_ | refine Ext.trans ?_ (by assumption)))) hol).mono ?_; rintro e w1 ⟨rfl, hw1⟩; have r0 := Ext.keep (w' := w1) (by repeat (first | exact Ext.refl _ | assumption | refine Ext.alloc ?_ _ | refine Ext.drew ?_ | refine Ext.trans ?_ (by assumption))) r0; have e0 := Ext.keep (w' := w1) (by repeat (first | exact Ext.refl _ | assumption | refine Ext.alloc ?_ _ | refine Ext.drew ?_ | refine Ext.trans ?_ (by assumption))) e0)
              exact ⟨⟨j + 1, by omega, by go_num, by rw [allN_succ, HC.out]; simp, (by repeat (first | exact Ext.refl _ | assumption | refine Ext.alloc ?_ _ | refine Ext.drew ?_ | refine Ext.trans ?_ (by assumption)))⟩, by simp [intOf]; omega⟩
        · have hjn : j = n := by omega
          have e1 := hwr'.keep e1
          have HT : allN j (numC out x last v.1) = numP n out x last v.1 := by rw [hjn]; rfl
          rw [HT]
          clear HT
          cases hp : numP n out x last v.1
          · go_wp2
            exact ⟨⟨k + 1, by omega, by go_num, by rw [sumV_at HX.out, hp]; simp, hwr.trans hwr'⟩, by simp [intOf]; omega⟩
          · go_wp2
            exact ⟨⟨k + 1, by omega, by go_num, by rw [sumV_at HX.out, hp]; simp, hwr.trans hwr'⟩, by simp [intOf]; omega⟩
    · go_wp2
      go_ret
      exact ⟨ret_int (by rw [List.take_of_length_le (by omega)]), h10.trans hwr⟩

set_option maxRecDepth 100000 in
theorem num_first {n : Nat} {vs : List Vt} (hS : SmallV n vs) {x : Nat} (hx : x < n) (out : List Int) : sumV (numP n out x false) vs = worF vs (leftL n out) x := by
  unfold worF
  refine sumV_congr fun v hv => ?_
  have hr := (hS.2 v hv).1
  unfold numP fsP
  rw [Bool.eq_iff_iff, allN_iff, Bool.not_eq_true', List.any_eq_false]
  constructor
  · intro h b hb
    obtain ⟨i, hi, hio, rfl⟩ := leftL_mem.1 hb
    have h1 := h i hi
    have h2 : hasI out (i : Int) = false := by
      cases h3 : hasI out (i : Int)
      · rfl
      · exact absurd (hasI_iff.1 h3) hio
    by_cases e : i = x
    · subst e; rw [pref_self]; simp
    · rw [pref_tot hr hi hx e]
      have h4 : ((i : Int) == (x : Int)) = false := by simp; omega
      simp only [numC, h2, h4] at h1
      simp at h1
      simp [h1]
  · intro h i hi
    unfold numC
    by_cases e : i = x
    · subst e; simp
    · cases h3 : hasI out (i : Int)
      · have h1 := h (i : Int) (leftL_mem.2 ⟨i, hi, (fun h4 => by rw [hasI_iff.2 h4] at h3; cases h3), rfl⟩)
        rw [pref_tot hr hi hx e] at h1
        simp at h1
        simp [h1]
      · simp
set_option maxRecDepth 100000 in
theorem num_last {n : Nat} {vs : List Vt} {x : Nat} (out : List Int) : sumV (numP n out x true) vs = sumV (lsP (leftL n out) x) vs := by
  refine sumV_congr fun v hv => ?_
  unfold numP lsP
  rw [Bool.eq_iff_iff, allN_iff, Bool.not_eq_true', List.any_eq_false]
  constructor
  · intro h b hb
    obtain ⟨i, hi, hio, rfl⟩ := leftL_mem.1 hb
    have h1 := h i hi
    have h2 : hasI out (i : Int) = false := by
      cases h3 : hasI out (i : Int)
      · rfl
      · exact absurd (hasI_iff.1 h3) hio
    by_cases e : i = x
    · subst e; rw [pref_self]; simp
    · have h4 : ((i : Int) == (x : Int)) = false := by simp; omega
      simp only [numC, h2, h4] at h1
      simp at h1
      simp [h1]
  · intro h i hi
    unfold numC
    cases h3 : hasI out (i : Int)
    · have h1 := h (i : Int) (leftL_mem.2 ⟨i, hi, (fun h4 => by rw [hasI_iff.2 h4] at h3; cases h3), rfl⟩)
      simp at h1
      simp [h1]
    · simp

def sumO (vs : List Vt) (out : List Int) (x : Int) : Nat → Int
  | 0 => 0
  | k + 1 => sumO vs out x k + if !((k : Int) == x) && !hasI out k then pairV vs x k else 0
set_option maxRecDepth 100000 in
theorem sumO_bd {sz : Int} {vs : List Vt} (hS : SmallV sz vs) (out : List Int) (x : Int) : ∀ k : Nat, 0 ≤ sumO vs out x k ∧ sumO vs out x k ≤ 24000 * k
  | 0 => by simp [sumO]
  | k + 1 => by
    have h1 := sumO_bd hS out x k
    have h2 : 0 ≤ pairV vs x k ∧ pairV vs x k ≤ 24000 := sumV_bd' hS
    unfold sumO
    split <;> omega
set_option maxRecDepth 100000 in
theorem pair_self (vs : List Vt) (x : Int) : pairV vs x x = 0 := by
  unfold pairV
  rw [sumV_congr (q := fun _ => false) (fun v _ => pref_self _ _), sumV_none]
set_option maxRecDepth 100000 in
theorem sumO_left (vs : List Vt) (out : List Int) (x : Int) : ∀ k : Nat, sumO vs out x k = worP vs (leftL k out) x
  | 0 => rfl
  | k + 1 => by
    have e : leftL (k + 1) out = leftL k out ++ if notIn out k then [(k : Int)] else [] := upL_succ k (notIn out)
    rw [sumO, sumO_left vs out x k, e]
    unfold worP notIn
    rw [List.map_append, List.sum_append]
    cases h1 : hasI out (k : Int)
    · by_cases h2 : (k : Int) = x
      · subst h2; simp [pair_self]
      · simp [h2]
    · simp

set_option maxRecDepth 100000 in
set_option maxHeartbeats 2000000 in
theorem sum_spec (w : World) (n : Nat) (a ao : Option Addr) (c co : Nat) (vs : List Vt) (out : List Int) (x : Int) (hR : RdV w a vs) (hS : SmallV n vs) (n2 : n ≤ 5) (hO : RdI w ao out) (hol : out.length ≤ 2000000) :
    Calls Tryz.prog 221 #[.agg #[.int .i64 n, .slice a vs.length c], .slice ao out.length co, .int .i64 x] w fun e w' => e = .returned (.int .i64 (worP vs (leftL n out) x)) ∧ Ext w w' := by
  have HS := hide hS
  clear hS
  rw [← sumO_left]
  have q0 := new0 w (.int .i64 n) [.slice a vs.length c] 29
  have q1 := new1 w (.int .i64 n) (.slice a vs.length c) [] 29
  go_enter Tryz.func221, Tryz.ntmps221
  go_wp2_with fail
  have h10 := Ext.new w (.cells #[.int .i64 n, .slice a vs.length c] 29)
  generalize w.alloc (.cells #[.int .i64 n, .slice a vs.length c] 29) = W0 at h10 q0 q1 ⊢
  have hR0 := hR.ext h10
  have hO0 := hO.ext h10
  go_loopw [7, 8] (fun s i wr => ∃ k : Nat, k ≤ n ∧ i = .int .i64 k ∧ s = .int .i64 (sumO vs out x k) ∧ Ext W0 wr) (fun _ i _ => n - (intOf i).toNat)
  case atStart => exact ⟨0, Nat.zero_le _, rfl, rfl, Ext.refl _⟩
  case round =>
    obtain ⟨k, hk, rfl, rfl, hwr⟩ := hrel
    have r0 := hwr.keep q0
    have r1 := hwr.keep q1
    have hRr := hR0.ext hwr
    have hOr := hO0.ext hwr
    by_cases hlt : k < n
    · have b1 := sumO_bd HS.out out x k
      have b2 : 0 ≤ pairV vs x k ∧ pairV vs x k ≤ 24000 := sumV_bd' HS.out
      by_cases hb : (k : Int) = x
      · have hc : sumO vs out x (k + 1) = sumO vs out x k := by rw [sumO, if_neg (by simp [hb])]; simp
        have HC := hide hc
        clear hc
        go_wp2
        exact ⟨⟨k + 1, by omega, by go_num, by rw [HC.out], (by repeat (first | exact Ext.refl _ | assumption | refine Ext.alloc ?_ _ | refine Ext.drew ?_ | refine Ext.trans ?_ (by assumption)))⟩, by simp [intOf]; omega⟩
      · cases ho : hasI out (k : Int)
        · have hc : sumO vs out x (k + 1) = sumO vs out x k + pairV vs x k := by rw [sumO, if_pos (by simp [hb, ho])]
          have HC := hide hc
          clear hc
          go_wp2_with (first | (go_at_call 207; refine (out_spec _ _ _ _ _ (hOr.ext (by repeat (first | exact Ext.refl _ | assumption | refine Ext.alloc ?_ _ | refine Ext.drew ?_ | refine Ext.trans ?_ (by assumption)))) hol).mono ?_; rintro e w1 ⟨rfl, hw1⟩; have r0 := Ext.keep (w' := w1) (by repeat (first | exact Ext.refl _ | assumption | refine Ext.alloc ?_ _ | refine Ext.drew ?_ | refine Ext.trans ?_ (by assumption))) r0; have r1 := Ext.keep (w' := w1) (by repeat (first | exact Ext.refl _ | assumption | refine Ext.alloc ?_ _ | refine Ext.drew ?_ | refine Ext.trans ?_ (by assumption))) r1) | (go_at_call 199; refine (pairI_spec _ _ _ _ _ _ _ (hRr.ext (by repeat (first | exact Ext.refl _ | assumption | refine Ext.alloc ?_ _ | refine Ext.drew ?_ | refine Ext.trans ?_ (by assumption)))) HS.out).mono ?_; rintro e w1 ⟨rfl, hw1⟩; have r0 := Ext.keep (w' := w1) (by repeat (first | exact Ext.refl _ | assumption | refine Ext.alloc ?_ _ | refine Ext.drew ?_ | refine Ext.trans ?_ (by assumption))) r0; have r1 := Ext.keep (w' := w1) (by repeat (first | exact Ext.refl _ | assumption | refine Ext.alloc ?_ _ | refine Ext.drew ?_ | refine Ext.trans ?_ (by assumption))) r1))
          exact ⟨⟨k + 1, by omega, by go_num, by rw [HC.out], (by repeat (first | exact Ext.refl _ | assumption | refine Ext.alloc ?_ _ | refine Ext.drew ?_ | refine Ext.trans ?_ (by assumption)))⟩, by simp [intOf]; omega⟩
        · have hc : sumO vs out x (k + 1) = sumO vs out x k := by rw [sumO, if_neg (by simp [ho])]; simp
          have HC := hide hc
          clear hc
          go_wp2_with (go_at_call 207; refine (out_spec _ _ _ _ _ (hOr.ext (by repeat (first | exact Ext.refl _ | assumption | refine Ext.alloc ?_ _ | refine Ext.drew ?_ | refine Ext.trans ?_ (by assumption)))) hol).mono ?_; rintro e w1 ⟨rfl, hw1⟩; have r0 := Ext.keep (w' := w1) (by repeat (first | exact Ext.refl _ | assumption | refine Ext.alloc ?_ _ | refine Ext.drew ?_ | refine Ext.trans ?_ (by assumption))) r0; have r1 := Ext.keep (w' := w1) (by repeat (first | exact Ext.refl _ | assumption | refine Ext.alloc ?_ _ | refine Ext.drew ?_ | refine Ext.trans ?_ (by assumption))) r1)
          exact ⟨⟨k + 1, by omega, by go_num, by rw [HC.out], (by repeat (first | exact Ext.refl _ | assumption | refine Ext.alloc ?_ _ | refine Ext.drew ?_ | refine Ext.trans ?_ (by assumption)))⟩, by simp [intOf]; omega⟩
    · have hkn : k = n := by omega
      go_wp2
      go_ret
      exact ⟨ret_int (by rw [hkn]), h10.trans hwr⟩

/-- The worth by kind: first places, last places, pairs. -/
def worK (vs : List Vt) (kind : Nat) : List Int → Int → Int := if kind = 0 then worF vs else if kind = 1 then worL vs else worP vs

set_option maxRecDepth 100000 in
set_option maxHeartbeats 2000000 in
theorem bad_spec (w : World) (n : Nat) (a ao : Option Addr) (c co : Nat) (vs : List Vt) (out : List Int) (x : Nat) (kind : Nat) (hk : kind ≤ 2) (hR : RdV w a vs) (hS : SmallV n vs) (n2 : n ≤ 5) (hx : x < n) (hO : RdI w ao out) (hol : out.length ≤ 2000000) :
    Calls Tryz.prog 213 #[.agg #[.int .i64 n, .slice a vs.length c], .slice ao out.length co, .int .i64 (x : Int), .int .i64 (kind : Int)] w fun e w' => e = .returned (.int .i64 (worK vs kind (leftL n out) x)) ∧ Ext w w' := by
  have HS := hide hS
  have hf := num_first hS hx out
  have hl := num_last (n := n) (vs := vs) (x := x) out
  have hb : 0 ≤ sumV (numP n out x true) vs ∧ sumV (numP n out x true) vs ≤ 24000 := sumV_bd' hS
  have HF := hide hf
  have HL := hide hl
  clear hS hf hl
  have hcase : kind = 0 ∨ kind = 1 ∨ kind = 2 := by omega
  rcases hcase with rfl | rfl | rfl
  · go_enter Tryz.func213, Tryz.ntmps213
    go_wp2_with (go_at_call 220; refine (num_spec _ _ _ _ _ _ _ _ _ _ (hR.ext (by repeat (first | exact Ext.refl _ | assumption | refine Ext.alloc ?_ _ | refine Ext.drew ?_ | refine Ext.trans ?_ (by assumption)))) HS.out n2 (hO.ext (by repeat (first | exact Ext.refl _ | assumption | refine Ext.alloc ?_ _ | refine Ext.drew ?_ | refine Ext.trans ?_ (by assumption)))) hol).mono ?_; rintro e w1 ⟨rfl, hw1⟩)
    go_ret
    exact ⟨ret_int HF.out, (by repeat (first | exact Ext.refl _ | assumption | refine Ext.alloc ?_ _ | refine Ext.drew ?_ | refine Ext.trans ?_ (by assumption)))⟩
  · go_enter Tryz.func213, Tryz.ntmps213
    go_wp2_with (go_at_call 220; refine (num_spec _ _ _ _ _ _ _ _ _ _ (hR.ext (by repeat (first | exact Ext.refl _ | assumption | refine Ext.alloc ?_ _ | refine Ext.drew ?_ | refine Ext.trans ?_ (by assumption)))) HS.out n2 (hO.ext (by repeat (first | exact Ext.refl _ | assumption | refine Ext.alloc ?_ _ | refine Ext.drew ?_ | refine Ext.trans ?_ (by assumption)))) hol).mono ?_; rintro e w1 ⟨rfl, hw1⟩)
    go_ret
    exact ⟨ret_int (by rw [HL.out]; rfl), (by repeat (first | exact Ext.refl _ | assumption | refine Ext.alloc ?_ _ | refine Ext.drew ?_ | refine Ext.trans ?_ (by assumption)))⟩
  · go_enter Tryz.func213, Tryz.ntmps213
    go_wp2_with (go_at_call 221; refine (sum_spec _ _ _ _ _ _ _ _ _ (hR.ext (by repeat (first | exact Ext.refl _ | assumption | refine Ext.alloc ?_ _ | refine Ext.drew ?_ | refine Ext.trans ?_ (by assumption)))) HS.out n2 (hO.ext (by repeat (first | exact Ext.refl _ | assumption | refine Ext.alloc ?_ _ | refine Ext.drew ?_ | refine Ext.trans ?_ (by assumption)))) hol).mono ?_; rintro e w1 ⟨rfl, hw1⟩)
    go_ret
    exact ⟨rfl, (by repeat (first | exact Ext.refl _ | assumption | refine Ext.alloc ?_ _ | refine Ext.drew ?_ | refine Ext.trans ?_ (by assumption)))⟩

end Go.Proofs.YtilcdnkkabmbfaaGreat
