/- The run-off of the two first candidates. -/
import Derived.Test.YtagepfgncbgncaaRunI
namespace Go.Proofs.Ytagepfgncbgncaa
open Go.RowKit

/-- Of the two first of the ranking the one that beats the other one, else the lesser. -/
def runV (n : Nat) (vs : List Vt) : Int :=
  if n = 1 then 0 else
  if beatsV vs (max ((srk (scoV pluW vs) n).getD 0 0) ((srk (scoV pluW vs) n).getD 1 0)) (min ((srk (scoV pluW vs) n).getD 0 0) ((srk (scoV pluW vs) n).getD 1 0)) then max ((srk (scoV pluW vs) n).getD 0 0) ((srk (scoV pluW vs) n).getD 1 0)
  else min ((srk (scoV pluW vs) n).getD 0 0) ((srk (scoV pluW vs) n).getD 1 0)
def runO (sz : Int) (vs : List Vt) : Int := if profOk sz vs then runV sz.toNat vs else -1
set_option maxRecDepth 100000 in
theorem run_one {n : Nat} {vs : List Vt} (h0 : profOk n vs = true) (hn : n = 1) : runO n vs = 0 := by simp only [runO, h0, if_true, runV, Int.toNat_natCast, if_pos hn]
set_option maxRecDepth 100000 in
theorem srk_nodup (sc : Nat → Int) (n : Nat) : (srk sc n).Nodup := by
  unfold srk
  rw [(sortD_perm (keyS sc) (iotaL n)).nodup_iff, iotaL_up]
  exact upL_nodup _ _
set_option maxRecDepth 100000 in
theorem run_two {n : Nat} {vs : List Vt} {x y : Int} (h0 : profOk n vs = true) (hn : n ≠ 1) (hx : (srk (scoV pluW vs) n)[0]? = some x) (hy : (srk (scoV pluW vs) n)[1]? = some y) :
    runO n vs = if beatsV vs (max x y) (min x y) then max x y else min x y := by
  have e1 : (srk (scoV pluW vs) n).getD 0 0 = x := by simp [List.getD, hx]
  have e2 : (srk (scoV pluW vs) n).getD 1 0 = y := by simp [List.getD, hy]
  simp only [runO, h0, if_true, runV, Int.toNat_natCast, if_neg hn, e1, e2]

set_option maxRecDepth 100000 in
set_option maxHeartbeats 4000000 in
theorem run_spec (w : World) (sz : Int) (a : Option Addr) (c : Nat) (vs : List Vt) (hR : RdV w a vs) :
    Calls Try.prog 31 #[.agg #[.int .i64 sz, .slice a vs.length c]] w fun e w' => e = .returned (.int .i64 (runO sz vs)) ∧ Ext w w' := by
  have q0 := new0 w (.int .i64 sz) [.slice a vs.length c] 43
  have q1 := new1 w (.int .i64 sz) (.slice a vs.length c) [] 43
  cases h0 : profOk sz vs
  · go_enter Try.func31, Try.ntmps31
    go_wp2_with (go_at_call 64; refine (prof_spec _ _ _ _ _ (hR.ext (by repeat (first | exact Ext.refl _ | assumption | refine Ext.alloc ?_ _ | refine Ext.drew ?_ | refine Ext.trans ?_ (by assumption))))).mono ?_; rintro e w1 ⟨rfl, hw1⟩; have q0 := Ext.keep (w' := w1) (by repeat (first | exact Ext.refl _ | assumption | refine Ext.alloc ?_ _ | refine Ext.drew ?_ | refine Ext.trans ?_ (by assumption))) q0; have q1 := Ext.keep (w' := w1) (by repeat (first | exact Ext.refl _ | assumption | refine Ext.alloc ?_ _ | refine Ext.drew ?_ | refine Ext.trans ?_ (by assumption))) q1)
    go_ret
    exact ⟨ret_int (by simp [runO, h0]), (by repeat (first | exact Ext.refl _ | assumption | refine Ext.alloc ?_ _ | refine Ext.drew ?_ | refine Ext.trans ?_ (by assumption)))⟩
  obtain ⟨n, rfl, n1, n2⟩ := prof_nat h0
  have HS := hide (prof_small h0)
  go_enter Try.func31, Try.ntmps31
  go_wp2_with (go_at_call 64; refine (prof_spec _ _ _ _ _ (hR.ext (by repeat (first | exact Ext.refl _ | assumption | refine Ext.alloc ?_ _ | refine Ext.drew ?_ | refine Ext.trans ?_ (by assumption))))).mono ?_; rintro e w1 ⟨rfl, hw1⟩; have q0 := Ext.keep (w' := w1) (by repeat (first | exact Ext.refl _ | assumption | refine Ext.alloc ?_ _ | refine Ext.drew ?_ | refine Ext.trans ?_ (by assumption))) q0; have q1 := Ext.keep (w' := w1) (by repeat (first | exact Ext.refl _ | assumption | refine Ext.alloc ?_ _ | refine Ext.drew ?_ | refine Ext.trans ?_ (by assumption))) q1)
  have hw : Ext w w1 := (by repeat (first | exact Ext.refl _ | assumption | refine Ext.alloc ?_ _ | refine Ext.drew ?_ | refine Ext.trans ?_ (by assumption)))
  refine wp_region_X (by kernel_rfl) (by kernel_rfl) ?_
  repeat' (refine wpX_stepQ (fun K hK => ?_)
           go_simp
           try (rw [if_neg (by intro h; simp [undef] at h)])
           try split
           all_goals
             first
             | (refine hK _ ?_
                clear hK K)
             | (apply Exists.intro
                refine ⟨fun wq hwq => ?_, hK _ ?_⟩
                · have hcq := hwq.cellS
                  go_simp
                  first
                  | exact ⟨Ext.refl _, rfl⟩
                clear hK K))
  refine wpX_stepS rfl (by kernel_rfl) (fun K hK wq hwq => ?_)
  go_simp
  refine (plu_spec _ n n1 n2).mono ?_
  rintro e w3 ⟨v, rfl, hv, hw3⟩
  refine ⟨hw3, hK _ _ ?_⟩
  clear hK K
  obtain ⟨av, cv, rfl, _, hRw, hju⟩ := hv.fr
  rw [rowL_len]
  have hw0 := hw.trans (hwq.trans hw3)
  have q0 := hw3.keep (hwq.keep q0)
  have q1 := hw3.keep (hwq.keep q1)
  obtain ⟨wb, hwb⟩ : ∃ wb : World, wb = w3 := ⟨_, rfl⟩
  subst hwb
  clear hw hwq hw3 hv hju
  refine wpX_stepS rfl (by kernel_rfl) (fun K hK wq hwq => ?_)
  go_simp
  refine (srk_spec _ _ a av c cv vs pluW n rfl (hR.ext (hw0.trans hwq)) (hRw.ext hwq) pluG h0).mono ?_
  rintro e w4 ⟨v, rfl, hv4, hw4⟩
  refine ⟨hw4, hK _ _ ?_⟩
  clear hK K
  obtain ⟨as', cs', rfl, _, hRs, hju⟩ := hv4.fr
  rw [srk_len]
  have hw := hw0.trans (hwq.trans hw4)
  have q0 := hw4.keep (hwq.keep q0)
  have q1 := hw4.keep (hwq.keep q1)
  clear hw0 hwq hw4 hv4 hju hRw
  repeat' (refine wpX_stepQ (fun K hK => ?_)
           go_simp
           try (rw [if_neg (by intro h; simp [undef] at h)])
           try split
           all_goals
             first
             | (refine hK _ ?_
                clear hK K)
             | (apply Exists.intro
                refine ⟨fun wq hwq => ?_, hK _ ?_⟩
                · have hcq := hwq.cellS
                  go_simp
                  first
                  | exact ⟨Ext.refl _, rfl⟩
                clear hK K))
  refine wpX_nil (fun wz hwz => ?_)
  have hw := hw.trans hwz
  have q0 := hwz.keep q0
  have q1 := hwz.keep q1
  have hRs := hRs.ext hwz
  obtain ⟨wc, hwc⟩ : ∃ wc : World, wc = wz := ⟨_, rfl⟩
  subst hwc
  clear hwz
  by_cases hn : n = 1
  · have hn1 : ((n : Int) == 1) = true := by rw [beq_iff_eq]; omega
    have HN := hide hn
    clear hn
    go_wp2
    go_ret
    exact ⟨ret_int (run_one h0 HN.out).symm, hw⟩
  · have hn1 : ((n : Int) == 1) = false := by rw [beq_eq_false_iff_ne]; omega
    have hl := srk_len (scoV pluW vs) n
    obtain ⟨x, hx⟩ := at_of_lt (xs := srk (scoV pluW vs) n) (k := 0) (by omega)
    obtain ⟨y, hy⟩ := at_of_lt (xs := srk (scoV pluW vs) n) (k := 1) (by omega)
    have HV := hide (run_two h0 hn hx hy)
    have hxy : x ≠ y := fun e => by
      rw [← e] at hy
      exact absurd (nodup_inj (srk_nodup _ _) hx hy) (by decide)
    obtain ⟨b, off, rfl, c0⟩ := hRs.at_ hx
    obtain ⟨b2, off2, hb, c1⟩ := hRs.at_ hy
    injection hb with hb
    injection hb with hb hb2
    subst hb
    subst hb2
    rw [Nat.add_zero] at c0
    have i1 : 0 < n := by omega
    have i2 : 1 < n := by omega
    have i3 : (1 : Int) < (n : Int) := by omega
    have i4 : (0 : Int) < (n : Int) := by omega
    clear hl hx hy
    rcases (show x < y ∨ y < x by omega) with hlt | hlt
    · have e1 : min x y = x := by omega
      have e2 : max x y = y := by omega
      rw [e1, e2] at HV
      clear e1 e2
      have t1 : ¬ y < x := by omega
      have t2 : x ≤ y := by omega
      have t3 : ¬ y ≤ x := by omega
      cases hb : beatsV vs y x
      all_goals
        go_wp2
        refine wp_region_X (by kernel_rfl) (by kernel_rfl) ?_
        repeat' (refine wpX_stepQ (fun K hK => ?_)
                 go_simp
                 try (rw [if_neg (by intro h; simp [undef] at h)])
                 try split
                 all_goals
                   first
                   | (refine hK _ ?_
                      clear hK K)
                   | (apply Exists.intro
                      refine ⟨fun wq hwq => ?_, hK _ ?_⟩
                      · have hcq := hwq.cellS
                        go_simp
                        first
                        | exact ⟨Ext.refl _, rfl⟩
                      clear hK K))
        all_goals try (exfalso; omega)
        refine wpX_nil (fun wz hwz => ?_)
        have hw := hw.trans hwz
        have q0 := hwz.keep q0
        have q1 := hwz.keep q1
        have c0 := hwz.keep c0
        have c1 := hwz.keep c1
        obtain ⟨wd, hwd⟩ : ∃ wd : World, wd = wz := ⟨_, rfl⟩
        subst hwd
        clear hwz
        go_wp2
        refine wp_region_X (by kernel_rfl) (by kernel_rfl) ?_
        repeat' (refine wpX_stepQ (fun K hK => ?_)
                 go_simp
                 try (rw [if_neg (by intro h; simp [undef] at h)])
                 try split
                 all_goals
                   first
                   | (refine hK _ ?_
                      clear hK K)
                   | (apply Exists.intro
                      refine ⟨fun wq hwq => ?_, hK _ ?_⟩
                      · have hcq := hwq.cellS
                        go_simp
                        first
                        | exact ⟨Ext.refl _, rfl⟩
                      clear hK K))
        all_goals try (exfalso; omega)
        refine wpX_nil (fun wz hwz => ?_)
        have hw := hw.trans hwz
        have q0 := hwz.keep q0
        have q1 := hwz.keep q1
        go_wp2_with (go_at_call 77; refine (beats_spec _ _ _ _ _ _ _ (hR.ext (by repeat (first | exact Ext.refl _ | assumption | refine Ext.alloc ?_ _ | refine Ext.drew ?_ | refine Ext.trans ?_ (by assumption)))) HS.out).mono ?_; rintro e w1 ⟨rfl, hw1⟩)
        go_ret
        rw [HV.out, hb]
        exact ⟨rfl, (by repeat (first | exact Ext.refl _ | assumption | refine Ext.alloc ?_ _ | refine Ext.drew ?_ | refine Ext.trans ?_ (by assumption)))⟩
    · have e1 : min x y = y := by omega
      have e2 : max x y = x := by omega
      rw [e1, e2] at HV
      clear e1 e2
      have t1 : ¬ x < y := by omega
      have t2 : y ≤ x := by omega
      have t3 : ¬ x ≤ y := by omega
      cases hb : beatsV vs x y
      all_goals
        go_wp2
        refine wp_region_X (by kernel_rfl) (by kernel_rfl) ?_
        repeat' (refine wpX_stepQ (fun K hK => ?_)
                 go_simp
                 try (rw [if_neg (by intro h; simp [undef] at h)])
                 try split
                 all_goals
                   first
                   | (refine hK _ ?_
                      clear hK K)
                   | (apply Exists.intro
                      refine ⟨fun wq hwq => ?_, hK _ ?_⟩
                      · have hcq := hwq.cellS
                        go_simp
                        first
                        | exact ⟨Ext.refl _, rfl⟩
                      clear hK K))
        all_goals try (exfalso; omega)
        refine wpX_nil (fun wz hwz => ?_)
        have hw := hw.trans hwz
        have q0 := hwz.keep q0
        have q1 := hwz.keep q1
        have c0 := hwz.keep c0
        have c1 := hwz.keep c1
        obtain ⟨wd, hwd⟩ : ∃ wd : World, wd = wz := ⟨_, rfl⟩
        subst hwd
        clear hwz
        go_wp2
        refine wp_region_X (by kernel_rfl) (by kernel_rfl) ?_
        repeat' (refine wpX_stepQ (fun K hK => ?_)
                 go_simp
                 try (rw [if_neg (by intro h; simp [undef] at h)])
                 try split
                 all_goals
                   first
                   | (refine hK _ ?_
                      clear hK K)
                   | (apply Exists.intro
                      refine ⟨fun wq hwq => ?_, hK _ ?_⟩
                      · have hcq := hwq.cellS
                        go_simp
                        first
                        | exact ⟨Ext.refl _, rfl⟩
                      clear hK K))
        all_goals try (exfalso; omega)
        refine wpX_nil (fun wz hwz => ?_)
        have hw := hw.trans hwz
        have q0 := hwz.keep q0
        have q1 := hwz.keep q1
        go_wp2_with (go_at_call 77; refine (beats_spec _ _ _ _ _ _ _ (hR.ext (by repeat (first | exact Ext.refl _ | assumption | refine Ext.alloc ?_ _ | refine Ext.drew ?_ | refine Ext.trans ?_ (by assumption)))) HS.out).mono ?_; rintro e w1 ⟨rfl, hw1⟩)
        go_ret
        rw [HV.out, hb]
        exact ⟨rfl, (by repeat (first | exact Ext.refl _ | assumption | refine Ext.alloc ?_ _ | refine Ext.drew ?_ | refine Ext.trans ?_ (by assumption)))⟩

set_option maxRecDepth 100000 in
set_option maxHeartbeats 4000000 in
theorem run_impl (w : World) (sz : Int) (a : Option Addr) (c : Nat) (vs : List Vt) (hR : RdV w a vs) :
    Calls Try.prog 32 #[.agg #[.int .i64 sz, .slice a vs.length c]] w fun e w' => e = .returned (.int .i64 (runO sz vs)) ∧ Ext w w' := by
  have q0 := new0 w (.int .i64 sz) [.slice a vs.length c] 43
  have q1 := new1 w (.int .i64 sz) (.slice a vs.length c) [] 43
  cases h0 : profOk sz vs
  · go_enter Try.func32, Try.ntmps32
    go_wp2_with (go_at_call 78; refine (prof_impl _ _ _ _ _ (hR.ext (by repeat (first | exact Ext.refl _ | assumption | refine Ext.alloc ?_ _ | refine Ext.drew ?_ | refine Ext.trans ?_ (by assumption))))).mono ?_; rintro e w1 ⟨rfl, hw1⟩; have q0 := Ext.keep (w' := w1) (by repeat (first | exact Ext.refl _ | assumption | refine Ext.alloc ?_ _ | refine Ext.drew ?_ | refine Ext.trans ?_ (by assumption))) q0; have q1 := Ext.keep (w' := w1) (by repeat (first | exact Ext.refl _ | assumption | refine Ext.alloc ?_ _ | refine Ext.drew ?_ | refine Ext.trans ?_ (by assumption))) q1)
    go_ret
    exact ⟨ret_int (by simp [runO, h0]), (by repeat (first | exact Ext.refl _ | assumption | refine Ext.alloc ?_ _ | refine Ext.drew ?_ | refine Ext.trans ?_ (by assumption)))⟩
  obtain ⟨n, rfl, n1, n2⟩ := prof_nat h0
  have HS := hide (prof_small h0)
  by_cases hn : n = 1
  · have hn1 : ((n : Int) == 1) = true := by rw [beq_iff_eq]; omega
    have HN := hide hn
    clear hn
    go_enter Try.func32, Try.ntmps32
    go_wp2_with (go_at_call 78; refine (prof_impl _ _ _ _ _ (hR.ext (by repeat (first | exact Ext.refl _ | assumption | refine Ext.alloc ?_ _ | refine Ext.drew ?_ | refine Ext.trans ?_ (by assumption))))).mono ?_; rintro e w1 ⟨rfl, hw1⟩; have q0 := Ext.keep (w' := w1) (by repeat (first | exact Ext.refl _ | assumption | refine Ext.alloc ?_ _ | refine Ext.drew ?_ | refine Ext.trans ?_ (by assumption))) q0; have q1 := Ext.keep (w' := w1) (by repeat (first | exact Ext.refl _ | assumption | refine Ext.alloc ?_ _ | refine Ext.drew ?_ | refine Ext.trans ?_ (by assumption))) q1)
    go_ret
    exact ⟨ret_int (run_one h0 HN.out).symm, (by repeat (first | exact Ext.refl _ | assumption | refine Ext.alloc ?_ _ | refine Ext.drew ?_ | refine Ext.trans ?_ (by assumption)))⟩
  have hn1 : ((n : Int) == 1) = false := by rw [beq_eq_false_iff_ne]; omega
  have hin : inR (n : Int) 1 5 = true := inR_iff.2 (by omega)
  go_enter Try.func32, Try.ntmps32
  go_wp2_with (go_at_call 78; refine (prof_impl _ _ _ _ _ (hR.ext (by repeat (first | exact Ext.refl _ | assumption | refine Ext.alloc ?_ _ | refine Ext.drew ?_ | refine Ext.trans ?_ (by assumption))))).mono ?_; rintro e w1 ⟨rfl, hw1⟩; have q0 := Ext.keep (w' := w1) (by repeat (first | exact Ext.refl _ | assumption | refine Ext.alloc ?_ _ | refine Ext.drew ?_ | refine Ext.trans ?_ (by assumption))) q0; have q1 := Ext.keep (w' := w1) (by repeat (first | exact Ext.refl _ | assumption | refine Ext.alloc ?_ _ | refine Ext.drew ?_ | refine Ext.trans ?_ (by assumption))) q1)
  have hw : Ext w w1 := (by repeat (first | exact Ext.refl _ | assumption | refine Ext.alloc ?_ _ | refine Ext.drew ?_ | refine Ext.trans ?_ (by assumption)))
  refine wp_region_X (by kernel_rfl) (by kernel_rfl) ?_
  repeat' (refine wpX_stepQ (fun K hK => ?_)
           go_simp
           try (rw [if_neg (by intro h; simp [undef] at h)])
           try split
           all_goals
             first
             | (refine hK _ ?_
                clear hK K)
             | (apply Exists.intro
                refine ⟨fun wq hwq => ?_, hK _ ?_⟩
                · have hcq := hwq.cellS
                  go_simp
                  first
                  | exact ⟨Ext.refl _, rfl⟩
                clear hK K))
  refine wpX_stepS rfl (by kernel_rfl) (fun K hK wq hwq => ?_)
  go_simp
  refine (plu_impl _ n).mono ?_
  rintro e w3 ⟨v, rfl, hv, hw3⟩
  refine ⟨hw3, hK _ _ ?_⟩
  clear hK K
  have hv := hv n rfl hin
  obtain ⟨av, cv, rfl, _, hRw, hju⟩ := hv.fr
  rw [rowL_len]
  have hw0 := hw.trans (hwq.trans hw3)
  have q0 := hw3.keep (hwq.keep q0)
  have q1 := hw3.keep (hwq.keep q1)
  obtain ⟨wb, hwb⟩ : ∃ wb : World, wb = w3 := ⟨_, rfl⟩
  subst hwb
  clear hw hwq hw3 hv hju
  refine wpX_stepS rfl (by kernel_rfl) (fun K hK wq hwq => ?_)
  go_simp
  refine (srk_impl _ _ a av c cv vs pluW n rfl (hR.ext (hw0.trans hwq)) (hRw.ext hwq) pluG h0).mono ?_
  rintro e w4 ⟨v, rfl, hv4, hw4⟩
  refine ⟨hw4, hK _ _ ?_⟩
  clear hK K
  obtain ⟨as', cs', rfl, _, hRs, hju⟩ := hv4.fr
  rw [srk_len]
  have hw := hw0.trans (hwq.trans hw4)
  have q0 := hw4.keep (hwq.keep q0)
  have q1 := hw4.keep (hwq.keep q1)
  clear hw0 hwq hw4 hv4 hju hRw
  repeat' (refine wpX_stepQ (fun K hK => ?_)
           go_simp
           try (rw [if_neg (by intro h; simp [undef] at h)])
           try split
           all_goals
             first
             | (refine hK _ ?_
                clear hK K)
             | (apply Exists.intro
                refine ⟨fun wq hwq => ?_, hK _ ?_⟩
                · have hcq := hwq.cellS
                  go_simp
                  first
                  | exact ⟨Ext.refl _, rfl⟩
                clear hK K))
  refine wpX_nil (fun wz hwz => ?_)
  have hw := hw.trans hwz
  have q0 := hwz.keep q0
  have q1 := hwz.keep q1
  have hRs := hRs.ext hwz
  obtain ⟨wc, hwc⟩ : ∃ wc : World, wc = wz := ⟨_, rfl⟩
  subst hwc
  clear hwz
  have hl := srk_len (scoV pluW vs) n
  obtain ⟨x, hx⟩ := at_of_lt (xs := srk (scoV pluW vs) n) (k := 0) (by omega)
  obtain ⟨y, hy⟩ := at_of_lt (xs := srk (scoV pluW vs) n) (k := 1) (by omega)
  have HV := hide (run_two h0 hn hx hy)
  have hxy : x ≠ y := fun e => by
    rw [← e] at hy
    exact absurd (nodup_inj (srk_nodup _ _) hx hy) (by decide)
  obtain ⟨b, off, rfl, c0⟩ := hRs.at_ hx
  obtain ⟨b2, off2, hb, c1⟩ := hRs.at_ hy
  injection hb with hb
  injection hb with hb hb2
  subst hb
  subst hb2
  rw [Nat.add_zero] at c0
  have i1 : 0 < n := by omega
  have i2 : 1 < n := by omega
  have i3 : (1 : Int) < (n : Int) := by omega
  have i4 : (0 : Int) < (n : Int) := by omega
  clear hl hx hy
  rcases (show x < y ∨ y < x by omega) with hlt | hlt
  · have e1 : min x y = x := by omega
    have e2 : max x y = y := by omega
    rw [e1, e2] at HV
    clear e1 e2
    have t1 : ¬ y < x := by omega
    have t2 : x ≤ y := by omega
    have t3 : ¬ y ≤ x := by omega
    cases hb : beatsV vs y x
    all_goals
      go_wp2
      refine wp_region_X (by kernel_rfl) (by kernel_rfl) ?_
      repeat' (refine wpX_stepQ (fun K hK => ?_)
               go_simp
               try (rw [if_neg (by intro h; simp [undef] at h)])
               try split
               all_goals
                 first
                 | (refine hK _ ?_
                    clear hK K)
                 | (apply Exists.intro
                    refine ⟨fun wq hwq => ?_, hK _ ?_⟩
                    · have hcq := hwq.cellS
                      go_simp
                      first
                      | exact ⟨Ext.refl _, rfl⟩
                    clear hK K))
      all_goals try (exfalso; omega)
      refine wpX_nil (fun wz hwz => ?_)
      have hw := hw.trans hwz
      have q0 := hwz.keep q0
      have q1 := hwz.keep q1
      go_wp2_with (go_at_call 82; refine (beats_impl _ _ _ _ _ _ _ (hR.ext (by repeat (first | exact Ext.refl _ | assumption | refine Ext.alloc ?_ _ | refine Ext.drew ?_ | refine Ext.trans ?_ (by assumption)))) HS.out).mono ?_; rintro e w1 ⟨rfl, hw1⟩)
      go_ret
      rw [HV.out, hb]
      exact ⟨rfl, (by repeat (first | exact Ext.refl _ | assumption | refine Ext.alloc ?_ _ | refine Ext.drew ?_ | refine Ext.trans ?_ (by assumption)))⟩
  · have e1 : min x y = y := by omega
    have e2 : max x y = x := by omega
    rw [e1, e2] at HV
    clear e1 e2
    have t1 : ¬ x < y := by omega
    have t2 : y ≤ x := by omega
    have t3 : ¬ x ≤ y := by omega
    cases hb : beatsV vs x y
    all_goals
      go_wp2
      refine wp_region_X (by kernel_rfl) (by kernel_rfl) ?_
      repeat' (refine wpX_stepQ (fun K hK => ?_)
               go_simp
               try (rw [if_neg (by intro h; simp [undef] at h)])
               try split
               all_goals
                 first
                 | (refine hK _ ?_
                    clear hK K)
                 | (apply Exists.intro
                    refine ⟨fun wq hwq => ?_, hK _ ?_⟩
                    · have hcq := hwq.cellS
                      go_simp
                      first
                      | exact ⟨Ext.refl _, rfl⟩
                    clear hK K))
      all_goals try (exfalso; omega)
      refine wpX_nil (fun wz hwz => ?_)
      have hw := hw.trans hwz
      have q0 := hwz.keep q0
      have q1 := hwz.keep q1
      go_wp2_with (go_at_call 82; refine (beats_impl _ _ _ _ _ _ _ (hR.ext (by repeat (first | exact Ext.refl _ | assumption | refine Ext.alloc ?_ _ | refine Ext.drew ?_ | refine Ext.trans ?_ (by assumption)))) HS.out).mono ?_; rintro e w1 ⟨rfl, hw1⟩)
      go_ret
      rw [HV.out, hb]
      exact ⟨rfl, (by repeat (first | exact Ext.refl _ | assumption | refine Ext.alloc ?_ _ | refine Ext.drew ?_ | refine Ext.trans ?_ (by assumption)))⟩

end Go.Proofs.Ytagepfgncbgncaa
