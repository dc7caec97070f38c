/- slices' stable sort with a function, of a short list. The ranking by scores, of the program. The run-off of the two first candidates. Eliminations of the reference, and those of the three rules. Eliminations of the reference. The orders of elimination, on both sides. The orders of elimination of the three rules. The greatest numbers of a list, and where they stand. The level and the winner of Bucklin's rule. -/
import Derived.Test.YtfmeklgdaabooaaGreatDoorCn7
import Derived.Test.YtfmeklgdaabooaaGreatDoorCn12
import Derived.Lib.BufferMore
import Derived.Test.YtfmeklgdaabooaaGreatDoorCn5
import Derived.Test.YtfmeklgdaabooaaGreatDoorCn2
namespace Go.Proofs.YtfmeklgdaabooaaGreatDoor
open Go.RowKit

set_option maxRecDepth 100000 in
set_option maxHeartbeats 4000000 in
theorem stab_impl (K : Nat) (fst cap : Array Value) (key : Int → Int) (d : Int → Int → Int) (w : World) (g n c : Nat) (ys : List Int) (hn : ys.length = n) (hn2 : n ≤ 19) (hB : BlkF w g n (memF (Value.int .i64) ys)) (hK : Enters Tryz.prog K)
    (hd : ∀ x y, d x y < 0 ↔ key y < key x)
    (hf : ∀ (x y : Int) (w' : World), x ∈ ys → y ∈ ys → Only g w w' → Calls Tryz.prog K (fst ++ (#[.int .i64 x, .int .i64 y] ++ cap)) w' fun e w'' => e = .returned (.int .i64 (d x y)) ∧ Ext w' w'') :
    Calls Tryz.prog 111 #[.slice (some ⟨g, 0, none⟩) n c, .func (.func K) fst cap] w fun e w' => e = .returned (.tuple #[]) ∧ BlkF w' g n (memF (Value.int .i64) (sortD key ys)) ∧ Only g w w' := by
  have HI := hide (ins_impl K fst cap key d w g n c ys hn (by omega) hB hK hd hf)
  have i1 : ¬ (20 : Int) ≤ (n : Int) := by omega
  have i2 : ¬ (20 : Int) < (n : Int) := by omega
  clear hd hf hB hn
  have HS : Hid (Calls Tryz.prog 133 #[.slice (some ⟨g, 0, none⟩) n c, .int .i64 n, .func (.func K) fst cap] w fun e w' => e = .returned (.tuple #[]) ∧ BlkF w' g n (memF (Value.int .i64) (sortD key ys)) ∧ Only g w w') := by
    go_enter Tryz.func133, Tryz.ntmps133
    go_wp2_with fail
    go_loopw [7, 8] (fun a b wr => a = .int .i64 0 ∧ b = .int .i64 20 ∧ wr = w) (fun _ _ _ => 0)
    case atStart => exact ⟨rfl, rfl, rfl⟩
    case round =>
      obtain ⟨rfl, rfl, rfl⟩ := hrel
      go_wp2_with fail
      refine HI.out.mono ?_
      rintro e w1 ⟨rfl, hB1, hO1⟩
      obtain ⟨wb, hwb⟩ : ∃ wb : World, wb = wr := ⟨_, rfl⟩
      subst hwb
      go_wp2_with fail
      go_loopw [6, 7, 8, 9] (fun s _ _ _ wq => s = .int .i64 20 ∧ wq = w1) (fun _ _ _ _ _ => 0)
      case atStart => exact ⟨rfl, rfl⟩
      case round =>
        obtain ⟨rfl, rfl⟩ := hrel
        go_wp2
        go_end0
        exact ⟨rfl, hB1, hO1⟩
  go_enter Tryz.func111, Tryz.ntmps111
  go_wp2_with fail
  refine HS.out.mono ?_
  rintro e w1 ⟨rfl, hB1, hO1⟩
  go_wp2
  go_end0
  exact ⟨rfl, hB1, hO1⟩

set_option maxRecDepth 100000 in
set_option maxHeartbeats 1000000 in
theorem srkOne (w : World) (gs n : Nat) (av : Option Addr) (cv : Nat) (sc : Nat → Int) (i j : Nat) (hg : w.cell? ⟨gs, 0, none⟩ = some (.slice av n cv)) (hR : RdI w av (rowL n sc)) (hi : i < n) (hj : j < n)
    (h1 : -10000000 ≤ sc i ∧ sc i ≤ 10000000) (h2 : -10000000 ≤ sc j ∧ sc j ≤ 10000000) :
    Calls Tryz.prog 112 (#[] ++ (#[.int .i64 (i : Int), .int .i64 (j : Int)] ++ #[.pointer (some ⟨gs, 0, none⟩)])) w fun e w' => e = .returned (.int .i64 (sc j - sc i)) ∧ Ext w w' := by
  obtain ⟨b, off, rfl, c0⟩ := hR.at_ (rowL_at (f := sc) hi)
  obtain ⟨b2, off2, hb, c1⟩ := hR.at_ (rowL_at (f := sc) hj)
  injection hb with hb
  injection hb with hb hb2
  subst hb
  subst hb2
  have y1 : wrap64 (sc j - sc i) = sc j - sc i := IntWalk.wrap64_in _ (by omega)
  have y2 : IntKind.i64.wrap (sc j - sc i) = sc j - sc i := IntWalk.i64_in _ (by omega)
  show Calls Tryz.prog 112 #[.int .i64 (i : Int), .int .i64 (j : Int), .pointer (some ⟨gs, 0, none⟩)] w _
  go_enter Tryz.func112, Tryz.ntmps112
  go_wp2
  refine wp_region_X (by kernel_rfl) (by kernel_rfl) ?_
  repeat' (refine wpX_stepQ (fun K hK => ?_)
           go_simp
           try (rw [if_neg (by intro h; simp [undef] at h)])
           try split
           all_goals
             first
             | (refine hK _ ?_
                clear hK K)
             | (apply Exists.intro
                refine ⟨fun wq hwq => ?_, hK _ ?_⟩
                · have hcq := hwq.cellS
                  go_simp
                  first
                  | exact ⟨Ext.refl _, rfl⟩
                clear hK K))
  refine wpX_nil (fun wz hwz => ?_)
  go_wp2
  go_ret
  exact ⟨rfl, hwz⟩

set_option maxRecDepth 100000 in
set_option maxHeartbeats 4000000 in
theorem srk_impl (w : World) (sz : Int) (a aw : Option Addr) (c cw : Nat) (vs : List Vt) (f : Nat → Int) (n : Nat) (hz : sz = n) (hR : RdV w a vs) (hW : RdI w aw (rowL n f)) (hf : GoodW f) (h0 : profOk sz vs = true) :
    Calls Tryz.prog 78 #[.agg #[.int .i64 sz, .slice a vs.length c], .slice aw n cw] w fun e w' => ∃ v, e = .returned v ∧ WrI w' w.heap.size v (srk (scoV f vs) n) ∧ Ext w w' := by
  subst hz
  obtain ⟨m, hm, n1, n2⟩ := prof_nat h0
  have hnm : n = m := by omega
  rw [← hnm] at n1 n2
  clear hm hnm m
  have HF := hide hf
  have hbd : ∀ j, -10000000 ≤ scoV f vs j ∧ scoV f vs j ≤ 10000000 := fun j => by
    have hS := prof_small h0
    have h := scoV_bd hS hf j vs.length (Nat.le_refl _)
    rw [List.take_length] at h
    have := hS.1
    omega
  have HBD := hide hbd
  clear hf hbd
  have q0 := new0 w (.int .i64 n) [.slice a vs.length c] 26
  have q1 := new1 w (.int .i64 n) (.slice a vs.length c) [] 26
  have hnil : ∀ (W : World) (a : Addr) (n c : Nat), (binOp .eql 28 (.slice (some a) n c) (.slice none 0 0)).run Tryz.prog W = .ok (.bool false) W := fun W a n c => Lib.run_eql_slice_some_nil W a n c Tryz.underlying28
  go_enter Tryz.func78, Tryz.ntmps78
  go_wp2_with fail
  refine (sco_impl _ _ a aw c cw vs f n rfl (hR.ext (by repeat (first | exact Ext.refl _ | assumption | refine Ext.alloc ?_ _ | refine Ext.drew ?_ | refine Ext.trans ?_ (by assumption)))) (hW.ext (by repeat (first | exact Ext.refl _ | assumption | refine Ext.alloc ?_ _ | refine Ext.drew ?_ | refine Ext.trans ?_ (by assumption)))) HF.out h0).mono ?_
  rintro e w1 ⟨v, rfl, hv, hw1⟩
  have q0 := hw1.keep q0
  have q1 := hw1.keep q1
  obtain ⟨av, cv, rfl, hcv, hRs, hju⟩ := hv.fr
  clear hju
  rw [rowL_len] at hcv hv ⊢
  obtain ⟨b0, off0, rfl, hc0⟩ := hRs.at_ (rowL_at (f := scoV f vs) (show 0 < n by omega))
  have hE1 : Ext w w1 := (Ext.new _ _).trans hw1
  have r0 := new0 w1 (.slice (some ⟨b0, off0, none⟩) n cv) [] 28
  have hE2 := Ext.new w1 (.cells #[.slice (some ⟨b0, off0, none⟩) n cv] 28)
  have q0 := hE2.keep q0
  have q1 := hE2.keep q1
  go_wp2_with fail
  refine (indices_impl _ n n2).mono ?_
  rintro e w2 ⟨rfl, hB, hw2⟩
  have hE3 : Ext w w2 := hE1.trans (hE2.trans hw2)
  have r0 := hw2.keep r0
  have hRs2 := (hRs.ext hE2).ext hw2
  have hG : (w1.alloc (.cells #[.slice (some ⟨b0, off0, none⟩) n cv] 28)).heap.size = w1.heap.size + 1 := by simp
  have hws := hE1.size
  have hb0 : b0 < w1.heap.size := World.block_lt_of_cell? w1 _ hc0
  rw [hG] at hB
  clear hG hE2 hw2 hRs hv q0 q1 hc0
  have hBm : BlkF w2 (w1.heap.size + 1) n (memF (Value.int .i64) (iotaL n)) := hB.congr (fun o ho => (memF_at (val := Value.int .i64) (rowL_at (f := fun j => (j : Int)) ho)).symm)
  have hl : (iotaL n).length = n := rowL_len _ _
  have HS := hide (stab_impl 112 #[] #[.pointer (some ⟨w1.heap.size, 0, none⟩)] (keyS (scoV f vs)) (fun x y => scoV f vs y.toNat - scoV f vs x.toNat) w2 (w1.heap.size + 1) n n (iotaL n) hl (by omega) hBm Tryz.call112
    (fun x y => by unfold keyS; omega)
    (fun x y w' hx hy hO => by
      obtain ⟨i, hi⟩ := List.mem_iff_getElem?.1 hx
      obtain ⟨hi1, rfl⟩ := rowL_val hi
      obtain ⟨j, hj⟩ := List.mem_iff_getElem?.1 hy
      obtain ⟨hj1, rfl⟩ := rowL_val hj
      simp only [Int.toNat_natCast]
      exact srkOne w' w1.heap.size n (some ⟨b0, off0, none⟩) cv (scoV f vs) i j (hO.keep (by show w1.heap.size ≠ w1.heap.size + 1; omega) r0) (hO.rdI hRs2 (fun b off h => by injection h with h; injection h with h; omega)) hi1 hj1 (HBD.out i) (HBD.out j)))
  clear hB hBm r0 hRs2 hnil
  go_wp2_with fail
  refine HS.out.mono ?_
  rintro e w3 ⟨rfl, hB3, hO3⟩
  go_wp2
  go_ret
  refine ⟨_, rfl, hB3.wrI (by rw [srk_len]) (fun j x hx => memF_at hx) (by omega) (Nat.le_refl _), Only.ext hE3 hO3 (by omega)⟩

/-- Of the two first of the ranking the one that beats the other one, else the lesser. -/
def runV (n : Nat) (vs : List Vt) : Int :=
  if n = 1 then 0 else
  if beatsV vs (max ((srk (scoV pluW vs) n).getD 0 0) ((srk (scoV pluW vs) n).getD 1 0)) (min ((srk (scoV pluW vs) n).getD 0 0) ((srk (scoV pluW vs) n).getD 1 0)) then max ((srk (scoV pluW vs) n).getD 0 0) ((srk (scoV pluW vs) n).getD 1 0)
  else min ((srk (scoV pluW vs) n).getD 0 0) ((srk (scoV pluW vs) n).getD 1 0)
def runO (sz : Int) (vs : List Vt) : Int := if profOk sz vs then runV sz.toNat vs else -1
set_option maxRecDepth 100000 in
theorem run_one {n : Nat} {vs : List Vt} (h0 : profOk n vs = true) (hn : n = 1) : runO n vs = 0 := by simp only [runO, h0, if_true, runV, Int.toNat_natCast, if_pos hn]
set_option maxRecDepth 100000 in
theorem srk_nodup (sc : Nat → Int) (n : Nat) : (srk sc n).Nodup := by
  unfold srk
  rw [(sortD_perm (keyS sc) (iotaL n)).nodup_iff, iotaL_up]
  exact upL_nodup _ _
set_option maxRecDepth 100000 in
theorem run_two {n : Nat} {vs : List Vt} {x y : Int} (h0 : profOk n vs = true) (hn : n ≠ 1) (hx : (srk (scoV pluW vs) n)[0]? = some x) (hy : (srk (scoV pluW vs) n)[1]? = some y) :
    runO n vs = if beatsV vs (max x y) (min x y) then max x y else min x y := by
  have e1 : (srk (scoV pluW vs) n).getD 0 0 = x := by simp [List.getD, hx]
  have e2 : (srk (scoV pluW vs) n).getD 1 0 = y := by simp [List.getD, hy]
  simp only [runO, h0, if_true, runV, Int.toNat_natCast, if_neg hn, e1, e2]

set_option maxRecDepth 100000 in
set_option maxHeartbeats 4000000 in
theorem run_impl (w : World) (sz : Int) (a : Option Addr) (c : Nat) (vs : List Vt) (hR : RdV w a vs) :
    Calls Tryz.prog 51 #[.agg #[.int .i64 sz, .slice a vs.length c]] w fun e w' => e = .returned (.int .i64 (runO sz vs)) ∧ Ext w w' := by
  have q0 := new0 w (.int .i64 sz) [.slice a vs.length c] 26
  have q1 := new1 w (.int .i64 sz) (.slice a vs.length c) [] 26
  cases h0 : profOk sz vs
  · go_enter Tryz.func51, Tryz.ntmps51
    go_wp2_with (go_at_call 25; refine (prof_impl _ _ _ _ _ (hR.ext (by repeat (first | exact Ext.refl _ | assumption | refine Ext.alloc ?_ _ | refine Ext.drew ?_ | refine Ext.trans ?_ (by assumption))))).mono ?_; rintro e w1 ⟨rfl, hw1⟩; have q0 := Ext.keep (w' := w1) (by repeat (first | exact Ext.refl _ | assumption | refine Ext.alloc ?_ _ | refine Ext.drew ?_ | refine Ext.trans ?_ (by assumption))) q0; have q1 := Ext.keep (w' := w1) (by repeat (first | exact Ext.refl _ | assumption | refine Ext.alloc ?_ _ | refine Ext.drew ?_ | refine Ext.trans ?_ (by assumption))) q1)
    go_ret
    exact ⟨ret_int (by simp [runO, h0]), (by repeat (first | exact Ext.refl _ | assumption | refine Ext.alloc ?_ _ | refine Ext.drew ?_ | refine Ext.trans ?_ (by assumption)))⟩
  obtain ⟨n, rfl, n1, n2⟩ := prof_nat h0
  have HS := hide (prof_small h0)
  by_cases hn : n = 1
  · have hn1 : ((n : Int) == 1) = true := by rw [beq_iff_eq]; omega
    have HN := hide hn
    clear hn
    go_enter Tryz.func51, Tryz.ntmps51
    go_wp2_with (go_at_call 25; refine (prof_impl _ _ _ _ _ (hR.ext (by repeat (first | exact Ext.refl _ | assumption | refine Ext.alloc ?_ _ | refine Ext.drew ?_ | refine Ext.trans ?_ (by assumption))))).mono ?_; rintro e w1 ⟨rfl, hw1⟩; have q0 := Ext.keep (w' := w1) (by repeat (first | exact Ext.refl _ | assumption | refine Ext.alloc ?_ _ | refine Ext.drew ?_ | refine Ext.trans ?_ (by assumption))) q0; have q1 := Ext.keep (w' := w1) (by repeat (first | exact Ext.refl _ | assumption | refine Ext.alloc ?_ _ | refine Ext.drew ?_ | refine Ext.trans ?_ (by assumption))) q1)
    go_ret
    exact ⟨ret_int (run_one h0 HN.out).symm, (by repeat (first | exact Ext.refl _ | assumption | refine Ext.alloc ?_ _ | refine Ext.drew ?_ | refine Ext.trans ?_ (by assumption)))⟩
  have hn1 : ((n : Int) == 1) = false := by rw [beq_eq_false_iff_ne]; omega
  have hin : inR (n : Int) 1 5 = true := inR_iff.2 (by omega)
  go_enter Tryz.func51, Tryz.ntmps51
  go_wp2_with (go_at_call 25; refine (prof_impl _ _ _ _ _ (hR.ext (by repeat (first | exact Ext.refl _ | assumption | refine Ext.alloc ?_ _ | refine Ext.drew ?_ | refine Ext.trans ?_ (by assumption))))).mono ?_; rintro e w1 ⟨rfl, hw1⟩; have q0 := Ext.keep (w' := w1) (by repeat (first | exact Ext.refl _ | assumption | refine Ext.alloc ?_ _ | refine Ext.drew ?_ | refine Ext.trans ?_ (by assumption))) q0; have q1 := Ext.keep (w' := w1) (by repeat (first | exact Ext.refl _ | assumption | refine Ext.alloc ?_ _ | refine Ext.drew ?_ | refine Ext.trans ?_ (by assumption))) q1)
  have hw : Ext w w1 := (by repeat (first | exact Ext.refl _ | assumption | refine Ext.alloc ?_ _ | refine Ext.drew ?_ | refine Ext.trans ?_ (by assumption)))
  refine wp_region_X (by kernel_rfl) (by kernel_rfl) ?_
  repeat' (refine wpX_stepQ (fun K hK => ?_)
           go_simp
           try (rw [if_neg (by intro h; simp [undef] at h)])
           try split
           all_goals
             first
             | (refine hK _ ?_
                clear hK K)
             | (apply Exists.intro
                refine ⟨fun wq hwq => ?_, hK _ ?_⟩
                · have hcq := hwq.cellS
                  go_simp
                  first
                  | exact ⟨Ext.refl _, rfl⟩
                clear hK K))
  refine wpX_stepS rfl (by kernel_rfl) (fun K hK wq hwq => ?_)
  go_simp
  refine (plu_impl _ n).mono ?_
  rintro e w3 ⟨v, rfl, hv, hw3⟩
  refine ⟨hw3, hK _ _ ?_⟩
  clear hK K
  have hv := hv n rfl hin
  obtain ⟨av, cv, rfl, _, hRw, hju⟩ := hv.fr
  rw [rowL_len]
  have hw0 := hw.trans (hwq.trans hw3)
  have q0 := hw3.keep (hwq.keep q0)
  have q1 := hw3.keep (hwq.keep q1)
  obtain ⟨wb, hwb⟩ : ∃ wb : World, wb = w3 := ⟨_, rfl⟩
  subst hwb
  clear hw hwq hw3 hv hju
  refine wpX_stepS rfl (by kernel_rfl) (fun K hK wq hwq => ?_)
  go_simp
  refine (srk_impl _ _ a av c cv vs pluW n rfl (hR.ext (hw0.trans hwq)) (hRw.ext hwq) pluG h0).mono ?_
  rintro e w4 ⟨v, rfl, hv4, hw4⟩
  refine ⟨hw4, hK _ _ ?_⟩
  clear hK K
  obtain ⟨as', cs', rfl, _, hRs, hju⟩ := hv4.fr
  rw [srk_len]
  have hw := hw0.trans (hwq.trans hw4)
  have q0 := hw4.keep (hwq.keep q0)
  have q1 := hw4.keep (hwq.keep q1)
  clear hw0 hwq hw4 hv4 hju hRw
  repeat' (refine wpX_stepQ (fun K hK => ?_)
           go_simp
           try (rw [if_neg (by intro h; simp [undef] at h)])
           try split
           all_goals
             first
             | (refine hK _ ?_
                clear hK K)
             | (apply Exists.intro
                refine ⟨fun wq hwq => ?_, hK _ ?_⟩
                · have hcq := hwq.cellS
                  go_simp
                  first
                  | exact ⟨Ext.refl _, rfl⟩
                clear hK K))
  refine wpX_nil (fun wz hwz => ?_)
  have hw := hw.trans hwz
  have q0 := hwz.keep q0
  have q1 := hwz.keep q1
  have hRs := hRs.ext hwz
  obtain ⟨wc, hwc⟩ : ∃ wc : World, wc = wz := ⟨_, rfl⟩
  subst hwc
  clear hwz
  have hl := srk_len (scoV pluW vs) n
  obtain ⟨x, hx⟩ := at_of_lt (xs := srk (scoV pluW vs) n) (k := 0) (by omega)
  obtain ⟨y, hy⟩ := at_of_lt (xs := srk (scoV pluW vs) n) (k := 1) (by omega)
  have HV := hide (run_two h0 hn hx hy)
  have hxy : x ≠ y := fun e => by
    rw [← e] at hy
    exact absurd (nodup_inj (srk_nodup _ _) hx hy) (by decide)
  obtain ⟨b, off, rfl, c0⟩ := hRs.at_ hx
  obtain ⟨b2, off2, hb, c1⟩ := hRs.at_ hy
  injection hb with hb
  injection hb with hb hb2
  subst hb
  subst hb2
  rw [Nat.add_zero] at c0
  have i1 : 0 < n := by omega
  have i2 : 1 < n := by omega
  have i3 : (1 : Int) < (n : Int) := by omega
  have i4 : (0 : Int) < (n : Int) := by omega
  clear hl hx hy
  rcases (show x < y ∨ y < x by omega) with hlt | hlt
  · have e1 : min x y = x := by omega
    have e2 : max x y = y := by omega
    rw [e1, e2] at HV
    clear e1 e2
    have t1 : ¬ y < x := by omega
    have t2 : x ≤ y := by omega
    have t3 : ¬ y ≤ x := by omega
    cases hb : beatsV vs y x
    all_goals
      go_wp2
      refine wp_region_X (by kernel_rfl) (by kernel_rfl) ?_
      repeat' (refine wpX_stepQ (fun K hK => ?_)
               go_simp
               try (rw [if_neg (by intro h; simp [undef] at h)])
               try split
               all_goals
                 first
                 | (refine hK _ ?_
                    clear hK K)
                 | (apply Exists.intro
                    refine ⟨fun wq hwq => ?_, hK _ ?_⟩
                    · have hcq := hwq.cellS
                      go_simp
                      first
                      | exact ⟨Ext.refl _, rfl⟩
                    clear hK K))
      all_goals try (exfalso; omega)
      refine wpX_nil (fun wz hwz => ?_)
      have hw := hw.trans hwz
      have q0 := hwz.keep q0
      have q1 := hwz.keep q1
      go_wp2_with (go_at_call 79; refine (beats_impl _ _ _ _ _ _ _ (hR.ext (by repeat (first | exact Ext.refl _ | assumption | refine Ext.alloc ?_ _ | refine Ext.drew ?_ | refine Ext.trans ?_ (by assumption)))) HS.out).mono ?_; rintro e w1 ⟨rfl, hw1⟩)
      go_ret
      rw [HV.out, hb]
      exact ⟨rfl, (by repeat (first | exact Ext.refl _ | assumption | refine Ext.alloc ?_ _ | refine Ext.drew ?_ | refine Ext.trans ?_ (by assumption)))⟩
  · have e1 : min x y = y := by omega
    have e2 : max x y = x := by omega
    rw [e1, e2] at HV
    clear e1 e2
    have t1 : ¬ x < y := by omega
    have t2 : y ≤ x := by omega
    have t3 : ¬ x ≤ y := by omega
    cases hb : beatsV vs x y
    all_goals
      go_wp2
      refine wp_region_X (by kernel_rfl) (by kernel_rfl) ?_
      repeat' (refine wpX_stepQ (fun K hK => ?_)
               go_simp
               try (rw [if_neg (by intro h; simp [undef] at h)])
               try split
               all_goals
                 first
                 | (refine hK _ ?_
                    clear hK K)
                 | (apply Exists.intro
                    refine ⟨fun wq hwq => ?_, hK _ ?_⟩
                    · have hcq := hwq.cellS
                      go_simp
                      first
                      | exact ⟨Ext.refl _, rfl⟩
                    clear hK K))
      all_goals try (exfalso; omega)
      refine wpX_nil (fun wz hwz => ?_)
      have hw := hw.trans hwz
      have q0 := hwz.keep q0
      have q1 := hwz.keep q1
      go_wp2_with (go_at_call 79; refine (beats_impl _ _ _ _ _ _ _ (hR.ext (by repeat (first | exact Ext.refl _ | assumption | refine Ext.alloc ?_ _ | refine Ext.drew ?_ | refine Ext.trans ?_ (by assumption)))) HS.out).mono ?_; rintro e w1 ⟨rfl, hw1⟩)
      go_ret
      rw [HV.out, hb]
      exact ⟨rfl, (by repeat (first | exact Ext.refl _ | assumption | refine Ext.alloc ?_ _ | refine Ext.drew ?_ | refine Ext.trans ?_ (by assumption)))⟩

def worF (vs : List Vt) (left : List Int) (x : Int) : Int := sumV (fsP left x) vs
def worL (vs : List Vt) (left : List Int) (x : Int) : Int := -sumV (lsP left x) vs
def worP (vs : List Vt) (left : List Int) (x : Int) : Int := (left.map (fun b => pairV vs x b)).sum

set_option maxRecDepth 100000 in
theorem pairs_bd {sz : Int} {vs : List Vt} (hS : SmallV sz vs) (x : Int) : ∀ left : List Int, 0 ≤ (left.map (fun b => pairV vs x b)).sum ∧ (left.map (fun b => pairV vs x b)).sum ≤ 24000 * left.length
  | [] => by simp
  | b :: left => by
    have h1 := pairs_bd hS x left
    have h2 : 0 ≤ pairV vs x b ∧ pairV vs x b ≤ 24000 := sumV_bd' hS
    simp only [List.map_cons, List.sum_cons, List.length_cons]
    omega

set_option maxRecDepth 100000 in
set_option maxHeartbeats 1000000 in
theorem instOne (w : World) (gp : Nat) (n : Nat) (a al : Option Addr) (c cl : Nat) (vs : List Vt) (left : List Int) (x : Int) (hR : RdV w a vs) (hS : SmallV n vs) (hL : RdI w al left) (hll : left.length ≤ 2000000)
    (h0 : w.cell? ⟨gp, 0, none⟩ = some (.int .i64 n)) (h1 : w.cell? ⟨gp, 1, none⟩ = some (.slice a vs.length c)) :
    Calls Tryz.prog 81 #[.slice al left.length cl, .int .i64 x, .pointer (some ⟨gp, 0, none⟩)] w fun e w' => e = .returned (.int .i64 (worF vs left x)) ∧ Ext w w' := by
  go_enter Tryz.func81, Tryz.ntmps81
  go_wp2_with (go_at_call 82; refine (first_impl _ _ _ _ _ _ _ _ _ (hR.ext (by repeat (first | exact Ext.refl _ | assumption | refine Ext.alloc ?_ _ | refine Ext.drew ?_ | refine Ext.trans ?_ (by assumption)))) hS (hL.ext (by repeat (first | exact Ext.refl _ | assumption | refine Ext.alloc ?_ _ | refine Ext.drew ?_ | refine Ext.trans ?_ (by assumption)))) hll).mono ?_; rintro e w1 ⟨rfl, hw1⟩)
  go_ret
  exact ⟨rfl, (by repeat (first | exact Ext.refl _ | assumption | refine Ext.alloc ?_ _ | refine Ext.drew ?_ | refine Ext.trans ?_ (by assumption)))⟩

set_option maxRecDepth 100000 in
set_option maxHeartbeats 1000000 in
theorem coomOne (w : World) (gp : Nat) (n : Nat) (a al : Option Addr) (c cl : Nat) (vs : List Vt) (left : List Int) (x : Int) (hR : RdV w a vs) (hS : SmallV n vs) (hL : RdI w al left) (hll : left.length ≤ 2000000)
    (h0 : w.cell? ⟨gp, 0, none⟩ = some (.int .i64 n)) (h1 : w.cell? ⟨gp, 1, none⟩ = some (.slice a vs.length c)) :
    Calls Tryz.prog 83 #[.slice al left.length cl, .int .i64 x, .pointer (some ⟨gp, 0, none⟩)] w fun e w' => e = .returned (.int .i64 (worL vs left x)) ∧ Ext w w' := by
  have hb : 0 ≤ sumV (lsP left x) vs ∧ sumV (lsP left x) vs ≤ 24000 := sumV_bd' hS
  have y1 : wrap64 (-sumV (lsP left x) vs) = -sumV (lsP left x) vs := IntWalk.wrap64_in _ (by omega)
  have y2 : IntKind.i64.wrap (-sumV (lsP left x) vs) = -sumV (lsP left x) vs := IntWalk.i64_in _ (by omega)
  clear hb
  go_enter Tryz.func83, Tryz.ntmps83
  go_wp2_with (go_at_call 84; refine (last_impl _ _ _ _ _ _ _ _ _ (hR.ext (by repeat (first | exact Ext.refl _ | assumption | refine Ext.alloc ?_ _ | refine Ext.drew ?_ | refine Ext.trans ?_ (by assumption)))) hS (hL.ext (by repeat (first | exact Ext.refl _ | assumption | refine Ext.alloc ?_ _ | refine Ext.drew ?_ | refine Ext.trans ?_ (by assumption)))) hll).mono ?_; rintro e w1 ⟨rfl, hw1⟩)
  go_ret
  exact ⟨rfl, (by repeat (first | exact Ext.refl _ | assumption | refine Ext.alloc ?_ _ | refine Ext.drew ?_ | refine Ext.trans ?_ (by assumption)))⟩

set_option maxRecDepth 100000 in
set_option maxHeartbeats 1000000 in
theorem baldOne (w : World) (gp : Nat) (n : Nat) (a al : Option Addr) (c cl : Nat) (vs : List Vt) (left : List Int) (x : Int) (hR : RdV w a vs) (hS : SmallV n vs) (hL : RdI w al left) (hll : left.length ≤ 5)
    (h0 : w.cell? ⟨gp, 0, none⟩ = some (.int .i64 n)) (h1 : w.cell? ⟨gp, 1, none⟩ = some (.slice a vs.length c)) :
    Calls Tryz.prog 85 #[.slice al left.length cl, .int .i64 x, .pointer (some ⟨gp, 0, none⟩)] w fun e w' => e = .returned (.int .i64 (worP vs left x)) ∧ Ext w w' := by
  have HS := hide hS
  clear hS
  go_enter Tryz.func85, Tryz.ntmps85
  go_wp2_with fail
  go_loopw [6, 8, 11] (fun s _ i wr => ∃ k : Nat, k ≤ left.length ∧ i = .int .i64 k ∧ s = .int .i64 (worP vs (left.take k) x) ∧ Ext w wr) (fun _ _ i _ => left.length - (intOf i).toNat)
  case atStart => exact ⟨0, Nat.zero_le _, rfl, rfl, Ext.refl _⟩
  case round =>
    obtain ⟨k, hk, rfl, rfl, hwr⟩ := hrel
    have r0 := hwr.keep h0
    have r1 := hwr.keep h1
    by_cases hlt : k < left.length
    · obtain ⟨b, hb⟩ := at_of_lt hlt
      obtain ⟨bb, off, rfl, d0⟩ := (hL.ext hwr).at_ hb
      have b1 := pairs_bd HS.out x (left.take k)
      rw [List.length_take] at b1
      have b2 : 0 ≤ pairV vs x b ∧ pairV vs x b ≤ 24000 := sumV_bd' HS.out
      have b3 : worP vs (left.take (k + 1)) x = worP vs (left.take k) x + pairV vs x b := by unfold worP; rw [take_at hb]; simp
      have b4 : 0 ≤ worP vs (left.take k) x ∧ worP vs (left.take k) x ≤ 120000 := by unfold worP; omega
      have HB := hide b3
      clear b1 b3 hb
      go_wp2_with (go_at_call 77; refine (pairI_impl _ _ _ _ _ _ _ ((hR.ext hwr).ext (by repeat (first | exact Ext.refl _ | assumption | refine Ext.alloc ?_ _ | refine Ext.drew ?_ | refine Ext.trans ?_ (by assumption)))) HS.out).mono ?_; rintro e w1 ⟨rfl, hw1⟩)
      exact ⟨⟨k + 1, by omega, by go_num, by rw [HB.out], (by repeat (first | exact Ext.refl _ | assumption | refine Ext.alloc ?_ _ | refine Ext.drew ?_ | refine Ext.trans ?_ (by assumption)))⟩, by simp [intOf]; omega⟩
    · go_wp2
      go_ret
      exact ⟨ret_int (by rw [List.take_of_length_le (by omega)]), hwr⟩

set_option maxRecDepth 100000 in
set_option maxHeartbeats 1000000 in
theorem inst_impl (w : World) (sz : Int) (a : Option Addr) (c : Nat) (vs : List Vt) (hR : RdV w a vs) :
    Calls Tryz.prog 53 #[.agg #[.int .i64 sz, .slice a vs.length c]] w fun e w' => ∃ v, e = .returned v ∧ OwnI w' w.heap.size v (elimO sz vs (worF vs)) ∧ Ext w w' := by
  have q0 := new0 w (.int .i64 sz) [.slice a vs.length c] 26
  have q1 := new1 w (.int .i64 sz) (.slice a vs.length c) [] 26
  go_enter Tryz.func53, Tryz.ntmps53
  go_wp2_with fail
  refine (elim_impl 81 #[.pointer (some ⟨w.heap.size, 0, none⟩)] (worF vs) _ sz a c vs (hR.ext (by repeat (first | exact Ext.refl _ | assumption | refine Ext.alloc ?_ _ | refine Ext.drew ?_ | refine Ext.trans ?_ (by assumption)))) Tryz.call81 (fun n left x al cl w' hn hn5 hS _ hll _ hw' hL => ?_)).mono ?_
  · subst hn
    exact instOne w' w.heap.size n a al c cl vs left x (hR.ext ((Ext.new w _).trans hw')) hS hL (by omega) (hw'.keep q0) (hw'.keep q1)
  rintro e w1 ⟨v, rfl, hv, hw1⟩
  go_wp2
  go_ret
  exact ⟨_, rfl, hv.base (Ext.size (by repeat (first | exact Ext.refl _ | assumption | refine Ext.alloc ?_ _ | refine Ext.drew ?_ | refine Ext.trans ?_ (by assumption)))), (by repeat (first | exact Ext.refl _ | assumption | refine Ext.alloc ?_ _ | refine Ext.drew ?_ | refine Ext.trans ?_ (by assumption)))⟩

set_option maxRecDepth 100000 in
set_option maxHeartbeats 1000000 in
theorem coom_impl (w : World) (sz : Int) (a : Option Addr) (c : Nat) (vs : List Vt) (hR : RdV w a vs) :
    Calls Tryz.prog 54 #[.agg #[.int .i64 sz, .slice a vs.length c]] w fun e w' => ∃ v, e = .returned v ∧ OwnI w' w.heap.size v (elimO sz vs (worL vs)) ∧ Ext w w' := by
  have q0 := new0 w (.int .i64 sz) [.slice a vs.length c] 26
  have q1 := new1 w (.int .i64 sz) (.slice a vs.length c) [] 26
  go_enter Tryz.func54, Tryz.ntmps54
  go_wp2_with fail
  refine (elim_impl 83 #[.pointer (some ⟨w.heap.size, 0, none⟩)] (worL vs) _ sz a c vs (hR.ext (by repeat (first | exact Ext.refl _ | assumption | refine Ext.alloc ?_ _ | refine Ext.drew ?_ | refine Ext.trans ?_ (by assumption)))) Tryz.call83 (fun n left x al cl w' hn hn5 hS _ hll _ hw' hL => ?_)).mono ?_
  · subst hn
    exact coomOne w' w.heap.size n a al c cl vs left x (hR.ext ((Ext.new w _).trans hw')) hS hL (by omega) (hw'.keep q0) (hw'.keep q1)
  rintro e w1 ⟨v, rfl, hv, hw1⟩
  go_wp2
  go_ret
  exact ⟨_, rfl, hv.base (Ext.size (by repeat (first | exact Ext.refl _ | assumption | refine Ext.alloc ?_ _ | refine Ext.drew ?_ | refine Ext.trans ?_ (by assumption)))), (by repeat (first | exact Ext.refl _ | assumption | refine Ext.alloc ?_ _ | refine Ext.drew ?_ | refine Ext.trans ?_ (by assumption)))⟩

set_option maxRecDepth 100000 in
set_option maxHeartbeats 1000000 in
theorem bald_impl (w : World) (sz : Int) (a : Option Addr) (c : Nat) (vs : List Vt) (hR : RdV w a vs) :
    Calls Tryz.prog 55 #[.agg #[.int .i64 sz, .slice a vs.length c]] w fun e w' => ∃ v, e = .returned v ∧ OwnI w' w.heap.size v (elimO sz vs (worP vs)) ∧ Ext w w' := by
  have q0 := new0 w (.int .i64 sz) [.slice a vs.length c] 26
  have q1 := new1 w (.int .i64 sz) (.slice a vs.length c) [] 26
  go_enter Tryz.func55, Tryz.ntmps55
  go_wp2_with fail
  refine (elim_impl 85 #[.pointer (some ⟨w.heap.size, 0, none⟩)] (worP vs) _ sz a c vs (hR.ext (by repeat (first | exact Ext.refl _ | assumption | refine Ext.alloc ?_ _ | refine Ext.drew ?_ | refine Ext.trans ?_ (by assumption)))) Tryz.call85 (fun n left x al cl w' hn hn5 hS _ hll _ hw' hL => ?_)).mono ?_
  · subst hn
    exact baldOne w' w.heap.size n a al c cl vs left x (hR.ext ((Ext.new w _).trans hw')) hS hL (by omega) (hw'.keep q0) (hw'.keep q1)
  rintro e w1 ⟨v, rfl, hv, hw1⟩
  go_wp2
  go_ret
  exact ⟨_, rfl, hv.base (Ext.size (by repeat (first | exact Ext.refl _ | assumption | refine Ext.alloc ?_ _ | refine Ext.drew ?_ | refine Ext.trans ?_ (by assumption)))), (by repeat (first | exact Ext.refl _ | assumption | refine Ext.alloc ?_ _ | refine Ext.drew ?_ | refine Ext.trans ?_ (by assumption)))⟩

def numC (out : List Int) (x : Int) (last : Bool) (r : List Int) (b : Nat) : Bool := (((b : Int) == x) || hasI out b) || (prefB r x b != last)
def numP (n : Nat) (out : List Int) (x : Int) (last : Bool) (r : List Int) : Bool := allN n (numC out x last r)

set_option maxRecDepth 100000 in
theorem num_first {n : Nat} {vs : List Vt} (hS : SmallV n vs) {x : Nat} (hx : x < n) (out : List Int) : sumV (numP n out x false) vs = worF vs (leftL n out) x := by
  unfold worF
  refine sumV_congr fun v hv => ?_
  have hr := (hS.2 v hv).1
  unfold numP fsP
  rw [Bool.eq_iff_iff, allN_iff, Bool.not_eq_true', List.any_eq_false]
  constructor
  · intro h b hb
    obtain ⟨i, hi, hio, rfl⟩ := leftL_mem.1 hb
    have h1 := h i hi
    have h2 : hasI out (i : Int) = false := by
      cases h3 : hasI out (i : Int)
      · rfl
      · exact absurd (hasI_iff.1 h3) hio
    by_cases e : i = x
    · subst e; rw [pref_self]; simp
    · rw [pref_tot hr hi hx e]
      have h4 : ((i : Int) == (x : Int)) = false := by simp; omega
      simp only [numC, h2, h4] at h1
      simp at h1
      simp [h1]
  · intro h i hi
    unfold numC
    by_cases e : i = x
    · subst e; simp
    · cases h3 : hasI out (i : Int)
      · have h1 := h (i : Int) (leftL_mem.2 ⟨i, hi, (fun h4 => by rw [hasI_iff.2 h4] at h3; cases h3), rfl⟩)
        rw [pref_tot hr hi hx e] at h1
        simp at h1
        simp [h1]
      · simp
set_option maxRecDepth 100000 in
theorem num_last {n : Nat} {vs : List Vt} {x : Nat} (out : List Int) : sumV (numP n out x true) vs = sumV (lsP (leftL n out) x) vs := by
  refine sumV_congr fun v hv => ?_
  unfold numP lsP
  rw [Bool.eq_iff_iff, allN_iff, Bool.not_eq_true', List.any_eq_false]
  constructor
  · intro h b hb
    obtain ⟨i, hi, hio, rfl⟩ := leftL_mem.1 hb
    have h1 := h i hi
    have h2 : hasI out (i : Int) = false := by
      cases h3 : hasI out (i : Int)
      · rfl
      · exact absurd (hasI_iff.1 h3) hio
    by_cases e : i = x
    · subst e; rw [pref_self]; simp
    · have h4 : ((i : Int) == (x : Int)) = false := by simp; omega
      simp only [numC, h2, h4] at h1
      simp at h1
      simp [h1]
  · intro h i hi
    unfold numC
    cases h3 : hasI out (i : Int)
    · have h1 := h (i : Int) (leftL_mem.2 ⟨i, hi, (fun h4 => by rw [hasI_iff.2 h4] at h3; cases h3), rfl⟩)
      simp at h1
      simp [h1]
    · simp

def sumO (vs : List Vt) (out : List Int) (x : Int) : Nat → Int
  | 0 => 0
  | k + 1 => sumO vs out x k + if !((k : Int) == x) && !hasI out k then pairV vs x k else 0
set_option maxRecDepth 100000 in
theorem sumO_bd {sz : Int} {vs : List Vt} (hS : SmallV sz vs) (out : List Int) (x : Int) : ∀ k : Nat, 0 ≤ sumO vs out x k ∧ sumO vs out x k ≤ 24000 * k
  | 0 => by simp [sumO]
  | k + 1 => by
    have h1 := sumO_bd hS out x k
    have h2 : 0 ≤ pairV vs x k ∧ pairV vs x k ≤ 24000 := sumV_bd' hS
    unfold sumO
    split <;> omega
set_option maxRecDepth 100000 in
theorem pair_self (vs : List Vt) (x : Int) : pairV vs x x = 0 := by
  unfold pairV
  rw [sumV_congr (q := fun _ => false) (fun v _ => pref_self _ _), sumV_none]
set_option maxRecDepth 100000 in
theorem sumO_left (vs : List Vt) (out : List Int) (x : Int) : ∀ k : Nat, sumO vs out x k = worP vs (leftL k out) x
  | 0 => rfl
  | k + 1 => by
    have e : leftL (k + 1) out = leftL k out ++ if notIn out k then [(k : Int)] else [] := upL_succ k (notIn out)
    rw [sumO, sumO_left vs out x k, e]
    unfold worP notIn
    rw [List.map_append, List.sum_append]
    cases h1 : hasI out (k : Int)
    · by_cases h2 : (k : Int) = x
      · subst h2; simp [pair_self]
      · simp [h2]
    · simp

/-- The worth by kind: first places, last places, pairs. -/
def worK (vs : List Vt) (kind : Nat) : List Int → Int → Int := if kind = 0 then worF vs else if kind = 1 then worL vs else worP vs

set_option maxRecDepth 100000 in
theorem OwnI.formR' {w : World} {B : Nat} {u : Value} {xs : List Int} (h : OwnI w B u xs) : ∃ a n c, u = .slice a n c ∧ n = xs.length ∧ RdI w a xs := by
  obtain ⟨a, c, rfl, _, _, hR, _⟩ := h.val
  exact ⟨_, _, _, rfl, rfl, hR⟩
set_option maxRecDepth 100000 in
theorem pick_nat {n : Nat} {f : Int → Int} {q : Nat → Bool} {i : Nat} (hi : i ≤ n) (hne : upL i q ≠ []) : ∃ p : Nat, p < n ∧ pickV f (upL i q) = p := by
  have h := pickV_mem (f := f) hne
  obtain ⟨p, hp, _, e⟩ := upL_mem.1 h
  exact ⟨p, by omega, e⟩

open Go.RowKit

def maxL : List Int → Int
  | [] => 0
  | x :: xs => xs.foldl max x
set_option maxRecDepth 100000 in
theorem maxL_snoc {ys : List Int} (x : Int) (h : ys ≠ []) : maxL (ys ++ [x]) = max (maxL ys) x := by
  cases ys with
  | nil => exact absurd rfl h
  | cons y ys => simp [maxL]
set_option maxRecDepth 100000 in
theorem maxL_at {xs : List Int} {k : Nat} {x : Int} (h : xs[k]? = some x) (hk : 1 ≤ k) : maxL (xs.take (k + 1)) = max (maxL (xs.take k)) x := by
  rw [take_at h]
  exact maxL_snoc x (fun e => by
    have := lt_of_at h
    have h2 : (xs.take k).length = 0 := by rw [e]; rfl
    rw [List.length_take] at h2; omega)
set_option maxRecDepth 100000 in
theorem foldl_ge (xs : List Int) : ∀ x, x ≤ xs.foldl max x ∧ ∀ y ∈ xs, y ≤ xs.foldl max x := by
  induction xs with
  | nil => intro x; simp
  | cons z xs ih =>
    intro x
    have h := ih (max x z)
    simp only [List.foldl_cons]
    refine ⟨by omega, fun y hy => ?_⟩
    rcases List.mem_cons.1 hy with rfl | hy
    · omega
    · exact h.2 y hy
set_option maxRecDepth 100000 in
theorem maxL_ge {xs : List Int} {x : Int} (h : x ∈ xs) : x ≤ maxL xs := by
  cases xs with
  | nil => cases h
  | cons z xs =>
    rcases List.mem_cons.1 h with rfl | h
    · exact (foldl_ge xs x).1
    · exact (foldl_ge xs z).2 x h
set_option maxRecDepth 100000 in
theorem foldl_mem (xs : List Int) : ∀ x, xs.foldl max x = x ∨ xs.foldl max x ∈ xs := by
  induction xs with
  | nil => intro x; exact .inl rfl
  | cons z xs ih =>
    intro x
    simp only [List.foldl_cons]
    rcases ih (max x z) with h | h
    · rw [h]
      by_cases e : x ≤ z
      · right; rw [show max x z = z by omega]; simp
      · left; omega
    · right; exact List.mem_cons_of_mem _ h
set_option maxRecDepth 100000 in
theorem maxL_mem {xs : List Int} (h : xs ≠ []) : maxL xs ∈ xs := by
  cases xs with
  | nil => exact absurd rfl h
  | cons z xs =>
    rcases foldl_mem xs z with h | h
    · show xs.foldl max z ∈ _
      rw [h]; simp
    · exact List.mem_cons_of_mem _ h

def isMax (xs : List Int) (m : Int) (i : Nat) : Bool := decide (xs[i]? = some m)
def bestL (xs : List Int) : List Int := upL xs.length (isMax xs (maxL xs))
/-- The best of the first k. -/
def bestT (xs : List Int) (k : Nat) : List Int := upL k (isMax xs (maxL (xs.take k)))
set_option maxRecDepth 100000 in
theorem bestT_all (xs : List Int) : bestT xs xs.length = bestL xs := by unfold bestT bestL; rw [List.take_length]
set_option maxRecDepth 100000 in
theorem bestT_len (xs : List Int) (k : Nat) : (bestT xs k).length ≤ k := upL_len _ _
set_option maxRecDepth 100000 in
theorem upL_none' {n : Nat} {q : Nat → Bool} (h : ∀ j, j < n → q j = false) : upL n q = [] := by
  unfold upL
  rw [List.map_eq_nil_iff, List.filter_eq_nil_iff]
  intro x hx
  rw [h x (List.mem_range.1 hx)]; simp
set_option maxRecDepth 100000 in
theorem bestT_new {xs : List Int} {k : Nat} {x : Int} (hx : xs[k]? = some x) (h : k = 0 ∨ maxL (xs.take k) < x) : bestT xs (k + 1) = [(k : Int)] := by
  have hm : maxL (xs.take (k + 1)) = x := by
    rcases h with rfl | h
    · rw [take_at hx]; simp [maxL]
    · by_cases hk : k = 0
      · subst hk; rw [take_at hx]; simp [maxL]
      · rw [maxL_at hx (by omega)]; omega
  unfold bestT
  rw [hm, upL_succ, upL_none' (fun j hj => ?_)]
  · simp [isMax, hx]
  · unfold isMax
    rw [decide_eq_false_iff_not]
    intro e
    have h1 : x ∈ xs.take k := by rw [List.mem_iff_getElem?]; exact ⟨j, by rw [List.getElem?_take_of_lt hj]; exact e⟩
    have h2 := maxL_ge h1
    omega
set_option maxRecDepth 100000 in
theorem bestT_tie {xs : List Int} {k : Nat} {x : Int} (hx : xs[k]? = some x) (hk : 1 ≤ k) (h : x = maxL (xs.take k)) : bestT xs (k + 1) = bestT xs k ++ [(k : Int)] := by
  have hm : maxL (xs.take (k + 1)) = maxL (xs.take k) := by rw [maxL_at hx hk]; omega
  unfold bestT
  rw [hm, upL_succ]
  simp [isMax, hx, h]
set_option maxRecDepth 100000 in
theorem bestT_not {xs : List Int} {k : Nat} {x : Int} (hx : xs[k]? = some x) (hk : 1 ≤ k) (h : x < maxL (xs.take k)) : bestT xs (k + 1) = bestT xs k := by
  have hm : maxL (xs.take (k + 1)) = maxL (xs.take k) := by rw [maxL_at hx hk]; omega
  have hne : ¬ x = maxL (xs.take k) := by omega
  unfold bestT
  rw [hm, upL_succ]
  simp [isMax, hx, hne]
set_option maxRecDepth 100000 in
theorem bestT_head {xs : List Int} {k : Nat} (hk : 1 ≤ k) (hl : k ≤ xs.length) : ∃ (i : Nat) (r : List Int), bestT xs k = (i : Int) :: r ∧ xs[i]? = some (maxL (xs.take k)) ∧ i < k ∧ ∀ j, j < i → xs[j]? ≠ some (maxL (xs.take k)) := by
  have hne : xs.take k ≠ [] := fun e => by
    have h2 : (xs.take k).length = 0 := by rw [e]; rfl
    rw [List.length_take] at h2; omega
  obtain ⟨i, hi⟩ := List.mem_iff_getElem?.1 (maxL_mem hne)
  have hik : i < k := by have := lt_of_at hi; rw [List.length_take] at this; omega
  rw [List.getElem?_take_of_lt hik] at hi
  have hq : isMax xs (maxL (xs.take k)) i = true := by simp [isMax, hi]
  unfold bestT
  generalize maxL (xs.take k) = m at hi hq ⊢
  clear hne hk hl
  induction k with
  | zero => omega
  | succ k ih =>
    by_cases hlt : i < k
    · obtain ⟨i0, r, h1, h2⟩ := ih hlt
      rw [upL_succ, h1]
      exact ⟨i0, r ++ _, rfl, h2.1, by omega, h2.2.2⟩
    · have hik : i = k := by omega
      subst hik
      by_cases hall : ∀ j, j < i → isMax xs m j = false
      · rw [upL_succ, upL_none' hall, hq]
        exact ⟨i, [], rfl, hi, by omega, fun j hj e => by have := hall j hj; simp [isMax, e] at this⟩
      · have : ∃ j, j < i ∧ isMax xs m j = true := by
          apply Classical.byContradiction
          intro hno
          exact hall (fun j hj => by
            cases h : isMax xs m j
            · rfl
            · exact absurd ⟨j, hj, h⟩ hno)
        obtain ⟨j, hj, hq2⟩ := this
        have key : ∀ k j, j < k → isMax xs m j = true → ∃ (i : Nat) (r : List Int), upL k (isMax xs m) = (i : Int) :: r ∧ xs[i]? = some m ∧ i < k ∧ ∀ j, j < i → xs[j]? ≠ some m := by
          intro k
          induction k with
          | zero => intro j hj; omega
          | succ k ih2 =>
            intro j hj hqj
            by_cases hex : ∃ j', j' < k ∧ isMax xs m j' = true
            · obtain ⟨j', hj', hq'⟩ := hex
              obtain ⟨i0, r, h1, h2, h3, h4⟩ := ih2 j' hj' hq'
              rw [upL_succ, h1]
              exact ⟨i0, r ++ _, rfl, h2, by omega, h4⟩
            · have hno : ∀ j', j' < k → isMax xs m j' = false := fun j' hj' => by
                cases h : isMax xs m j'
                · rfl
                · exact absurd ⟨j', hj', h⟩ hex
              have hjk : j = k := by
                rcases Nat.lt_or_ge j k with h | h
                · rw [hno j h] at hqj; cases hqj
                · omega
              subst hjk
              rw [upL_succ, upL_none' hno, hqj]
              exact ⟨j, [], rfl, by simpa [isMax] using hqj, by omega, fun j' hj' e => by have := hno j' hj'; simp [isMax, e] at this⟩
        exact key (i + 1) j (by omega) hq2

set_option maxRecDepth 100000 in
theorem OwnI.lit1 (w : World) (y : Int) : OwnI (w.alloc (.cells #[.int .i64 y] 3)) w.heap.size (.slice (some ⟨w.heap.size, 0, none⟩) 1 1) [y] :=
  ⟨rfl, .inr ⟨w.heap.size, 1, #[.int .i64 y], rfl, Nat.le_refl _, heap_alloc_new _ _, Nat.le_refl _, by simp [maxLen], rfl, rfl⟩⟩
set_option maxRecDepth 100000 in
theorem max_if (x y : Int) : (if x < y then y else x) = max x y := by split <;> omega
set_option maxRecDepth 100000 in
theorem max_if' (x y : Int) : (if y < x then x else y) = max x y := by split <;> omega

set_option maxRecDepth 100000 in
set_option maxHeartbeats 1000000 in
theorem max_impl (w : World) (a : Option Addr) (c : Nat) (xs : List Int) (hR : RdI w a xs) (hl : xs.length ≤ 2000000) (hne : 1 ≤ xs.length) :
    Calls Tryz.prog 72 #[.slice a xs.length c] w fun e w' => e = .returned (.int .i64 (maxL xs)) ∧ Ext w w' := by
  obtain ⟨x, hx⟩ := at_of_lt (xs := xs) (k := 0) (by omega)
  obtain ⟨b, off, rfl, c0⟩ := hR.at_ hx
  rw [Nat.add_zero] at c0
  have h1 : x = maxL (xs.take 1) := by
    cases xs with
    | nil => simp at hx
    | cons y ys => simp at hx; subst hx; simp [maxL]
  have H1 := hide h1
  clear hx h1
  go_enter Tryz.func72, Tryz.ntmps72
  go_wp2_with fail
  rw [H1.out]
  go_loopw [3, 4] (fun s i wr => ∃ k : Nat, 1 ≤ k ∧ k ≤ xs.length ∧ i = .int .i64 k ∧ s = .int .i64 (maxL (xs.take k)) ∧ Ext w wr) (fun _ i _ => xs.length - (intOf i).toNat)
  case atStart => exact ⟨1, by omega, hne, rfl, rfl, Ext.refl _⟩
  case round =>
    obtain ⟨k, hk1, hk, rfl, rfl, hwr⟩ := hrel
    by_cases hlt : k < xs.length
    · obtain ⟨y, hy⟩ := at_of_lt hlt
      obtain ⟨b', off', hb, c1⟩ := (hR.ext hwr).at_ hy
      injection hb with hb
      injection hb with hb hb2
      subst hb
      subst hb2
      have HY := hide hy
      clear hy
      go_wp2
      exact ⟨⟨k + 1, by omega, by omega, by go_num, by rw [maxL_at HY.out hk1]; first | rw [← max_if] | rw [← max_if'], (by repeat (first | exact Ext.refl _ | assumption | refine Ext.alloc ?_ _ | refine Ext.drew ?_ | refine Ext.trans ?_ (by assumption)))⟩, by simp [intOf]; omega⟩
    · go_wp2
      go_ret
      exact ⟨ret_int (by rw [List.take_of_length_le (by omega)]), hwr⟩

set_option maxRecDepth 100000 in
set_option maxHeartbeats 1000000 in
theorem gr_impl (w : World) (a : Option Addr) (c : Nat) (xs : List Int) (hR : RdI w a xs) (hl : xs.length ≤ 1000000) :
    Calls Tryz.prog 48 #[.slice a xs.length c] w fun e w' => ∃ v, e = .returned v ∧ OwnI w' w.heap.size v (bestL xs) ∧ Ext w w' := by
  go_enter Tryz.func48, Tryz.ntmps48
  go_wp2_with fail
  go_loopw [3, 4, 5, 8] (fun v _ _ i wr => ∃ k : Nat, k ≤ xs.length ∧ i = .int .i64 k ∧ OwnI wr w.heap.size v (upL k (isMax xs (maxL xs))) ∧ Ext w wr) (fun _ _ _ i _ => xs.length - (intOf i).toNat)
  case atStart => exact ⟨0, Nat.zero_le _, rfl, OwnI.nil _ _, Ext.refl _⟩
  case round =>
    obtain ⟨k, hk, rfl, hown, hwr⟩ := hrel
    have hul := upL_len k (isMax xs (maxL xs))
    by_cases hlt : k < xs.length
    · obtain ⟨y, hy⟩ := at_of_lt hlt
      obtain ⟨b', off', rfl, c1⟩ := (hR.ext hwr).at_ hy
      have HY := hide hy
      clear hy
      cases hq : (y == maxL xs)
      · go_wp2_with (go_at_call 72; refine (max_impl _ _ _ _ (hR.ext (by repeat (first | exact Ext.refl _ | assumption | refine Ext.alloc ?_ _ | refine Ext.drew ?_ | refine Ext.trans ?_ (by assumption)))) (by omega) (by omega)).mono ?_; rintro e w1 ⟨rfl, hw1⟩)
        exact ⟨⟨k + 1, by omega, by go_num, by rw [upL_succ, show isMax xs (maxL xs) k = false by simp only [isMax, HY.out]; simpa using hq]; simpa using hown.ext hw1, (by repeat (first | exact Ext.refl _ | assumption | refine Ext.alloc ?_ _ | refine Ext.drew ?_ | refine Ext.trans ?_ (by assumption)))⟩, by simp [intOf]; omega⟩
      · go_wp2_with (first | (go_at_call 72; refine (max_impl _ _ _ _ (hR.ext (by repeat (first | exact Ext.refl _ | assumption | refine Ext.alloc ?_ _ | refine Ext.drew ?_ | refine Ext.trans ?_ (by assumption)))) (by omega) (by omega)).mono ?_; rintro e w1 ⟨rfl, hw1⟩) | (at_builtin; refine wpList_appI w _ rfl _ _ rfl _ (upL k (isMax xs (maxL xs))) _ rfl (hown.ext (by repeat (first | exact Ext.refl _ | assumption | refine Ext.alloc ?_ _ | refine Ext.drew ?_ | refine Ext.trans ?_ (by assumption)))) (by repeat (first | exact Ext.refl _ | assumption | refine Ext.alloc ?_ _ | refine Ext.drew ?_ | refine Ext.trans ?_ (by assumption))) rfl (by omega) ?_; intro v' w3 hown3 hw3))
        exact ⟨⟨k + 1, by omega, by go_num, by rw [upL_succ, show isMax xs (maxL xs) k = true by simp only [isMax, HY.out]; simpa using hq]; exact hown3, (by repeat (first | exact Ext.refl _ | assumption | refine Ext.alloc ?_ _ | refine Ext.drew ?_ | refine Ext.trans ?_ (by assumption)))⟩, by simp [intOf]; omega⟩
    · have hkl : k = xs.length := by omega
      go_wp2
      go_ret
      rw [hkl] at hown
      exact ⟨_, rfl, hown, hwr⟩

def bukA (vs : List Vt) (k a : Nat) : Bool := decide (allV vs < 2 * wthV vs k a)
def bukN (n : Nat) (vs : List Vt) (k : Nat) : Bool := allN n (fun a => !bukA vs k a)
def levV (n : Nat) (vs : List Vt) : Nat := match (List.range n).find? (fun j => !bukN n vs (j + 1)) with
  | some j => j + 1
  | none => 0
set_option maxRecDepth 100000 in
theorem levV_at {n : Nat} {vs : List Vt} {j : Nat} (hj : j < n) (h : ∀ i, i < j → bukN n vs (i + 1) = true) (hh : bukN n vs (j + 1) = false) : levV n vs = j + 1 := by
  have e : (List.range n).find? (fun j => !bukN n vs (j + 1)) = some j := by
    rw [List.find?_range_eq_some]
    exact ⟨by simp [hh], List.mem_range.2 hj, fun i hi => by simp [h i hi]⟩
  unfold levV; rw [e]
set_option maxRecDepth 100000 in
theorem levV_none {n : Nat} {vs : List Vt} (h : ∀ i, i < n → bukN n vs (i + 1) = true) : levV n vs = 0 := by
  have e : (List.range n).find? (fun j => !bukN n vs (j + 1)) = none := by
    rw [List.find?_range_eq_none]
    exact fun i hi => by simp [h i hi]
  unfold levV; rw [e]
set_option maxRecDepth 100000 in
theorem levV_le (n : Nat) (vs : List Vt) : levV n vs ≤ n := by
  unfold levV
  cases e : (List.range n).find? (fun j => !bukN n vs (j + 1)) with
  | none => simp
  | some j =>
    have := List.mem_of_find?_eq_some e
    have := List.mem_range.1 this
    simp; omega
def levO (sz : Int) (vs : List Vt) : Int := if profOk sz vs then (levV sz.toNat vs : Int) else -1
def bukO (sz : Int) (vs : List Vt) : Int := if profOk sz vs then (bestL (rowL sz.toNat (wthV vs (levV sz.toNat vs)))).headD 0 else -1

set_option maxRecDepth 100000 in
theorem wth_full {n : Nat} {vs : List Vt} (hS : SmallV n vs) {a : Nat} (ha : a < n) : wthV vs n a = allV vs := by
  unfold wthV allV
  exact sumV_congr fun x hx => by
    obtain ⟨p, hp, hpl, _⟩ := place_at (hS.2 x hx).1 ha
    simp only [wthP, hpl, decide_eq_true_eq]; omega
set_option maxRecDepth 100000 in
theorem allV_pos {n : Int} : ∀ {vs : List Vt}, SmallV n vs → vs ≠ [] → 1 ≤ allV vs
  | [], _, h => absurd rfl h
  | x :: vs, hS, _ => by
    have h1 := (hS.2 x (by simp)).2.1
    have h2 : 0 ≤ allV vs ∧ _ := sumV_bd' hS.tail (p := fun _ => true)
    have h3 : allV (x :: vs) = x.2 + allV vs := by unfold allV; rw [sumV_cons]; simp
    omega
set_option maxRecDepth 100000 in
theorem buk_end {n : Nat} {vs : List Vt} (hS : SmallV n vs) (n1 : 1 ≤ n) (hne : vs ≠ []) : bukN n vs n = false := by
  refine allN_f (k := 0) n1 ?_
  have h1 := wth_full hS (a := 0) n1
  have h2 := allV_pos hS hne
  simp only [bukA, h1, Bool.not_eq_false', decide_eq_true_eq]; omega

set_option maxRecDepth 100000 in
theorem max_buk {n : Nat} {vs : List Vt} (n1 : 1 ≤ n) (k : Nat) : (2 * maxL (rowL n (wthV vs k)) ≤ allV vs) ↔ bukN n vs k = true := by
  have hne : rowL n (wthV vs k) ≠ [] := fun e => by have := rowL_len n (wthV vs k); rw [e] at this; simp at this; omega
  constructor
  · intro h
    refine allN_t fun j hj => ?_
    have h1 := maxL_ge (List.mem_of_getElem? (rowL_at (f := wthV vs k) hj))
    simp only [bukA, Bool.not_eq_true', decide_eq_false_iff_not]; omega
  · intro h
    obtain ⟨j, hj⟩ := List.mem_iff_getElem?.1 (maxL_mem hne)
    obtain ⟨hjn, e⟩ := rowL_val hj
    have h1 := allN_iff.1 h j hjn
    simp only [bukA, Bool.not_eq_true', decide_eq_false_iff_not] at h1
    rw [e]; omega

set_option maxRecDepth 100000 in
set_option maxHeartbeats 2000000 in
theorem levO_impl (w : World) (sz : Int) (a : Option Addr) (c : Nat) (vs : List Vt) (hR : RdV w a vs) :
    Calls Tryz.prog 86 #[.agg #[.int .i64 sz, .slice a vs.length c]] w fun e w' => e = .returned (.int .i64 (levO sz vs)) ∧ Ext w w' := by
  have q0 := new0 w (.int .i64 sz) [.slice a vs.length c] 26
  have q1 := new1 w (.int .i64 sz) (.slice a vs.length c) [] 26
  cases h0 : profOk sz vs
  · go_enter Tryz.func86, Tryz.ntmps86
    go_wp2_with (go_at_call 25; refine (prof_impl _ _ _ _ _ (hR.ext (by repeat (first | exact Ext.refl _ | assumption | refine Ext.alloc ?_ _ | refine Ext.drew ?_ | refine Ext.trans ?_ (by assumption))))).mono ?_; rintro e w1 ⟨rfl, hw1⟩; have q0 := Ext.keep (w' := w1) (by repeat (first | exact Ext.refl _ | assumption | refine Ext.alloc ?_ _ | refine Ext.drew ?_ | refine Ext.trans ?_ (by assumption))) q0; have q1 := Ext.keep (w' := w1) (by repeat (first | exact Ext.refl _ | assumption | refine Ext.alloc ?_ _ | refine Ext.drew ?_ | refine Ext.trans ?_ (by assumption))) q1)
    go_ret
    exact ⟨ret_int (by simp [levO, h0]), (by repeat (first | exact Ext.refl _ | assumption | refine Ext.alloc ?_ _ | refine Ext.drew ?_ | refine Ext.trans ?_ (by assumption)))⟩
  obtain ⟨n, rfl, n1, n2⟩ := prof_nat h0
  have HP := hide h0
  have HS := hide (prof_small h0)
  have hl24 := (prof_small h0).1
  by_cases hz : vs = []
  · have hz2 : ((vs.length : Int) == 0) = true := by rw [hz]; rfl
    have HZ := hide hz
    clear hz
    go_enter Tryz.func86, Tryz.ntmps86
    go_wp2_with (go_at_call 25; refine (prof_impl _ _ _ _ _ (hR.ext (by repeat (first | exact Ext.refl _ | assumption | refine Ext.alloc ?_ _ | refine Ext.drew ?_ | refine Ext.trans ?_ (by assumption))))).mono ?_; rintro e w1 ⟨rfl, hw1⟩; have q0 := Ext.keep (w' := w1) (by repeat (first | exact Ext.refl _ | assumption | refine Ext.alloc ?_ _ | refine Ext.drew ?_ | refine Ext.trans ?_ (by assumption))) q0; have q1 := Ext.keep (w' := w1) (by repeat (first | exact Ext.refl _ | assumption | refine Ext.alloc ?_ _ | refine Ext.drew ?_ | refine Ext.trans ?_ (by assumption))) q1)
    go_ret
    refine ⟨ret_int ?_, (by repeat (first | exact Ext.refl _ | assumption | refine Ext.alloc ?_ _ | refine Ext.drew ?_ | refine Ext.trans ?_ (by assumption)))⟩
    simp only [levO, h0, if_true, Int.toNat_natCast]
    rw [levV_none (fun i hi => allN_t fun j hj => by rw [HZ.out]; simp [bukA, allV, wthV, sumV])]
    rfl
  · have hpos : 1 ≤ vs.length := by
      cases vs with
      | nil => exact absurd rfl hz
      | cons => simp
    have hz2 : ((vs.length : Int) == 0) = false := by simp; exact hz
    have HE := hide (buk_end HS.out n1 hz)
    clear hz
    go_enter Tryz.func86, Tryz.ntmps86
    go_wp2_with (go_at_call 25; refine (prof_impl _ _ _ _ _ (hR.ext (by repeat (first | exact Ext.refl _ | assumption | refine Ext.alloc ?_ _ | refine Ext.drew ?_ | refine Ext.trans ?_ (by assumption))))).mono ?_; rintro e w1 ⟨rfl, hw1⟩; have q0 := Ext.keep (w' := w1) (by repeat (first | exact Ext.refl _ | assumption | refine Ext.alloc ?_ _ | refine Ext.drew ?_ | refine Ext.trans ?_ (by assumption))) q0; have q1 := Ext.keep (w' := w1) (by repeat (first | exact Ext.refl _ | assumption | refine Ext.alloc ?_ _ | refine Ext.drew ?_ | refine Ext.trans ?_ (by assumption))) q1)
    have hw : Ext w w1 := (by repeat (first | exact Ext.refl _ | assumption | refine Ext.alloc ?_ _ | refine Ext.drew ?_ | refine Ext.trans ?_ (by assumption)))
    have hR0 := hR.ext hw
    obtain ⟨wb, hwb⟩ : ∃ wb : World, wb = w1 := ⟨_, rfl⟩
    subst hwb
    have b2 : 0 ≤ allV vs ∧ allV vs ≤ 24000 := sumV_bd' HS.out
    go_loopw [3] (fun i wr => ∃ k : Nat, k + 1 ≤ n ∧ i = .int .i64 ((k + 1 : Nat) : Int) ∧ Hid (∀ j, j < k → bukN n vs (j + 1) = true) ∧ Ext wb wr) (fun i _ => n + 1 - (intOf i).toNat)
    case atStart => exact ⟨0, n1, rfl, fun j hj => absurd hj (by omega), Ext.refl _⟩
    case round =>
      obtain ⟨k, hk, rfl, hall, hwr⟩ := hrel
      have r0 := hwr.keep q0
      have r1 := hwr.keep q1
      have hRr := hR0.ext hwr
      obtain ⟨s, hs⟩ : ∃ s : Nat, s = k + 1 := ⟨_, rfl⟩
      rw [← hs]
      have HK := hide hs
      have hs1 : k + 1 ≤ s := by omega
      have hs2 : s ≤ k + 1 := by omega
      clear hs
      obtain ⟨M, hM⟩ : ∃ M : Int, M = maxL (rowL n (wthV vs s)) := ⟨_, rfl⟩
      have hne : rowL n (wthV vs s) ≠ [] := fun e => by have := rowL_len n (wthV vs s); rw [e] at this; simp at this; omega
      obtain ⟨j, hj⟩ := List.mem_iff_getElem?.1 (maxL_mem hne)
      obtain ⟨hjn, hjv⟩ := rowL_val hj
      have b1 := wthV_bd HS.out s j
      rw [← hjv, ← hM] at b1
      have hmb := max_buk (vs := vs) n1 s
      rw [← hM] at hmb
      have HMB := hide hmb
      have HM := hide hM
      clear hM hne hj hjv hjn hmb
      have y1 : wrap64 (2 * M) = 2 * M := IntWalk.wrap64_in _ (by omega)
      have y2 : IntKind.i64.wrap (2 * M) = 2 * M := IntWalk.i64_in _ (by omega)
      have HC : Hid (∀ w', Ext wb w' → Calls Tryz.prog 76 #[.agg #[.int .i64 n, .slice a vs.length c]] w' fun e w'' => e = .returned (.int .i64 (allV vs)) ∧ Ext w' w'') := fun w' hw' =>
        (count_impl w' n a c vs (hR0.ext hw')).mono fun _ _ ⟨h1, h2⟩ => ⟨by rw [h1, if_pos h0], h2⟩
      go_wp2
      refine wp_region_O [0, 1, 5, 2, 3, 4, 6, 7] (by kernel_rfl) rfl (by kernel_rfl) ?_
      repeat' (refine wpO_stepQ rfl (fun K hK => ?_)
               go_simp
               try (rw [if_neg (by intro h; simp [undef] at h)])
               try split
               all_goals
                 first
                 | (refine hK _ ?_
                    clear hK K)
                 | (apply Exists.intro
                    refine ⟨fun wq hwq => ?_, hK _ ?_⟩
                    · have hcq := hwq.cellS
                      go_simp
                      first
                      | exact ⟨Ext.refl _, rfl⟩
                      | exact ⟨Ext.refl _, HC.out _ (by repeat (first | exact Ext.refl _ | assumption | refine Ext.alloc ?_ _ | refine Ext.drew ?_ | refine Ext.trans ?_ (by assumption)))⟩
                    clear hK K))
      refine wpO_stepS rfl (by kernel_rfl) (fun K hK wq hwq => ?_)
      go_simp
      refine (wth_impl _ n a c vs s (hRr.ext (by repeat (first | exact Ext.refl _ | assumption | refine Ext.alloc ?_ _ | refine Ext.drew ?_ | refine Ext.trans ?_ (by assumption)))) HS.out n2).mono ?_
      rintro e w3 ⟨v, rfl, hv, hw3⟩
      refine ⟨hw3, hK _ _ ?_⟩
      clear hK K
      obtain ⟨av, cv, rfl, _, hRv, _⟩ := hv.fr
      have HX : Hid (∀ w', Ext w3 w' → Calls Tryz.prog 72 #[.slice av n cv] w' fun e w'' => e = .returned (.int .i64 M) ∧ Ext w' w'') := fun w' hw' => by
        have h := max_impl w' av cv _ (hRv.ext hw') (by rw [rowL_len]; omega) (by rw [rowL_len]; omega)
        rw [rowL_len, ← HM.out] at h
        exact h
      rw [rowL_len]
      repeat' (refine wpO_stepQ rfl (fun K hK => ?_)
               go_simp
               try (rw [if_neg (by intro h; simp [undef] at h)])
               try split
               all_goals
                 first
                 | (refine hK _ ?_
                    clear hK K)
                 | (apply Exists.intro
                    refine ⟨fun wq hwq => ?_, hK _ ?_⟩
                    · have hcq := hwq.cellS
                      go_simp
                      first
                      | exact ⟨Ext.refl _, rfl⟩
                      | exact ⟨Ext.refl _, HX.out _ (by repeat (first | exact Ext.refl _ | assumption | refine Ext.alloc ?_ _ | refine Ext.drew ?_ | refine Ext.trans ?_ (by assumption)))⟩
                      | exact ⟨Ext.refl _, HC.out _ (by repeat (first | exact Ext.refl _ | assumption | refine Ext.alloc ?_ _ | refine Ext.drew ?_ | refine Ext.trans ?_ (by assumption)))⟩
                    clear hK K))
      refine wpO_nil (fun wz hwz => ?_)
      by_cases ht : 2 * M ≤ allV vs
      · go_wp2
        have hkn : k + 1 ≠ n := fun e => by
          have h1 := HMB.out.1 ht
          rw [HK.out, e, HE.out] at h1
          cases h1
        exact ⟨⟨s, by omega, by go_num, fun x hx => by
          rcases Nat.lt_succ_iff_lt_or_eq.1 (show x < k + 1 by omega) with h | h
          · exact hall.out x h
          · rw [h, ← HK.out]; exact HMB.out.1 ht, (by repeat (first | exact Ext.refl _ | assumption | refine Ext.alloc ?_ _ | refine Ext.drew ?_ | refine Ext.trans ?_ (by assumption)))⟩, by simp [intOf]; omega⟩
      · go_wp2
        go_ret
        refine ⟨ret_int ?_, (by repeat (first | exact Ext.refl _ | assumption | refine Ext.alloc ?_ _ | refine Ext.drew ?_ | refine Ext.trans ?_ (by assumption)))⟩
        have h1 : bukN n vs (k + 1) = false := by
          cases hb : bukN n vs (k + 1)
          · rfl
          · exact absurd (HMB.out.2 (by rw [HK.out]; exact hb)) (by omega)
        simp only [levO, h0, if_true, Int.toNat_natCast]
        rw [levV_at (by omega) hall.out h1, HK.out]

end Go.Proofs.YtfmeklgdaabooaaGreatDoor
