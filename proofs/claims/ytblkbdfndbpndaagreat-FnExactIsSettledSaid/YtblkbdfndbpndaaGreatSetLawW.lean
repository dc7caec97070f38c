/- The walk through FnExactIsSettled. -/
import Derived.Test.YtblkbdfndbpndaaGreatCk27
import Derived.Test.YtblkbdfndbpndaaGreatSetS
namespace Go.Proofs.YtblkbdfndbpndaaGreat
open Go.RowKit

set_option maxRecDepth 100000 in
set_option maxHeartbeats 8000000 in
theorem set_law (w : World) (rule : Int) (sz : Int) (a : Option Addr) (c : Nat) (vs : List Vt) (sz2 : Int) (a2 : Option Addr) (c2 : Nat) (ts : List Vt) (hR : RdV w a vs) (hl : vs.length ≤ maxLen) (hm : ∀ x ∈ vs, x.1.length ≤ maxLen) (hT : RdV w a2 ts) (hlt : ts.length ≤ maxLen) (hmt : ∀ x ∈ ts, x.1.length ≤ maxLen) :
    Calls Tryz.prog 13 #[.int .i64 rule, .agg #[.int .i64 sz, .slice a vs.length c], .agg #[.int .i64 sz2, .slice a2 ts.length c2]] w fun e w' => e = .returned (.bool true) ∧ Ext w w' := by
  have HM := hide hm
  have HMt := hide hmt
  clear hm hmt
  have q0 := new0 w (.int .i64 sz) [.slice a vs.length c] 24
  have q1 := new1 w (.int .i64 sz) (.slice a vs.length c) [] 24
  have p0 := new0 (w.alloc (.cells #[.int .i64 sz, .slice a vs.length c] 24)) (.int .i64 sz2) [.slice a2 ts.length c2] 24
  have p1 := new1 (w.alloc (.cells #[.int .i64 sz, .slice a vs.length c] 24)) (.int .i64 sz2) (.slice a2 ts.length c2) [] 24
  have hE1 := Ext.new (w.alloc (.cells #[.int .i64 sz, .slice a vs.length c] 24)) (.cells #[.int .i64 sz2, .slice a2 ts.length c2] 24)
  have q0 := hE1.keep q0
  have q1 := hE1.keep q1
  rw [show (w.alloc (.cells #[.int .i64 sz, .slice a vs.length c] 24)).heap.size = w.heap.size + 1 by simp] at p0 p1
  clear hE1
  go_enter Tryz.func13, Tryz.ntmps13
  go_wp2_with fail
  refine (szP _ _ _ _ _ _ (hR.ext (by repeat (first | exact Ext.refl _ | assumption | refine Ext.alloc ?_ _ | refine Ext.drew ?_ | refine Ext.trans ?_ (by assumption)))) hl HM.out (by decide) (by decide)).mono ?_
  rintro e w0 ⟨r, rfl, hw0, hr⟩
  have q0 := hw0.keep q0
  have q1 := hw0.keep q1
  have p0 := hw0.keep p0
  have p1 := hw0.keep p1
  by_cases hs : r < 0
  · go_wp2
    go_ret
    exact ⟨rfl, (by repeat (first | exact Ext.refl _ | assumption | refine Ext.alloc ?_ _ | refine Ext.drew ?_ | refine Ext.trans ?_ (by assumption)))⟩
  have hbl := (hr.bd hs).1
  have HB := hide (hr.bd hs).2
  have hbm2 : ∀ x ∈ vs, x.1.length ≤ 2000000 := fun x hx => Nat.le_trans (HB.out x hx) (by decide)
  have HB2 := hide hbm2
  have hr1 : r ≤ 1048576 := by rcases hr with h | h; exact absurd h hs; exact h.1
  clear hr hbm2
  go_wp2_with fail
  refine (szP _ _ _ _ _ r (hT.ext (by repeat (first | exact Ext.refl _ | assumption | refine Ext.alloc ?_ _ | refine Ext.drew ?_ | refine Ext.trans ?_ (by assumption)))) hlt HMt.out (by omega) (by omega)).mono ?_
  rintro e w00 ⟨r2, rfl, hw00, hr⟩
  have q0 := hw00.keep q0
  have q1 := hw00.keep q1
  have p0 := hw00.keep p0
  have p1 := hw00.keep p1
  by_cases hs2 : r2 < 0
  · go_wp2
    go_ret
    exact ⟨rfl, (by repeat (first | exact Ext.refl _ | assumption | refine Ext.alloc ?_ _ | refine Ext.drew ?_ | refine Ext.trans ?_ (by assumption)))⟩
  have hrr : (ts.length : Int) ≤ r ∧ ∀ x ∈ ts, (x.1.length : Int) ≤ r := by rcases hr with h | h; exact absurd h hs2; exact h.2
  have hbt : ts.length ≤ 1048576 := by omega
  have hbt1 : ∀ x ∈ ts, x.1.length ≤ 1048576 := fun x hx => by have := hrr.2 x hx; omega
  have hbt2 : ∀ x ∈ ts, x.1.length ≤ 2000000 := fun x hx => Nat.le_trans (hbt1 x hx) (by decide)
  have HT := hide hbt1
  have HT2 := hide hbt2
  clear hr hrr hbt1 hbt2
  go_wp2_with fail
  refine wp_region_O [0,1,3,2,4,5,6] (by kernel_rfl) rfl (by kernel_rfl) ?_
  repeat' (refine wpO_stepQ rfl (fun K hK => ?_)
           go_simp
           try (rw [if_neg (by intro h; simp [undef] at h)])
           try split
           all_goals
             first
             | (refine hK _ ?_
                clear hK K)
             | (apply Exists.intro
                refine ⟨fun wq hwq => ?_, hK _ ?_⟩
                · have hcq := hwq.cellS
                  go_simp
                  first
                  | exact ⟨Ext.refl _, rfl⟩
                clear hK K))
  refine wpO_stepS rfl (by kernel_rfl) (fun K hK wq hwq => ?_)
  go_simp
  refine (toP_rd _ _ _ _ _ (hR.ext (by repeat (first | exact Ext.refl _ | assumption | refine Ext.alloc ?_ _ | refine Ext.drew ?_ | refine Ext.trans ?_ (by assumption)))) hbl HB.out).mono ?_
  rintro e w2 ⟨a3, rfl, hR1, hw2⟩
  refine ⟨hw2, hK _ _ ?_⟩
  clear hK K
  refine wpO_stepS rfl (by kernel_rfl) (fun K hK wq hwq => ?_)
  go_simp
  refine (toP_rd _ _ _ _ _ (hT.ext (by repeat (first | exact Ext.refl _ | assumption | refine Ext.alloc ?_ _ | refine Ext.drew ?_ | refine Ext.trans ?_ (by assumption)))) hbt HT.out).mono ?_
  rintro e w3 ⟨a4, rfl, hT1, hw3⟩
  refine ⟨hw3, hK _ _ ?_⟩
  clear hK K
  repeat' (refine wpO_stepQ rfl (fun K hK => ?_)
           go_simp
           try (rw [if_neg (by intro h; simp [undef] at h)])
           try split
           all_goals
             first
             | (refine hK _ ?_
                clear hK K)
             | (apply Exists.intro
                refine ⟨fun wq hwq => ?_, hK _ ?_⟩
                · have hcq := hwq.cellS
                  go_simp
                  first
                  | exact ⟨Ext.refl _, rfl⟩
                  | exact ⟨Ext.refl _, set_spec _ _ _ _ _ _ _ _ _ _ (hR1.ext (by repeat (first | exact Ext.refl _ | assumption | refine Ext.alloc ?_ _ | refine Ext.drew ?_ | refine Ext.trans ?_ (by assumption)))) (hT1.ext (by repeat (first | exact Ext.refl _ | assumption | refine Ext.alloc ?_ _ | refine Ext.drew ?_ | refine Ext.trans ?_ (by assumption))))⟩
                clear hK K))
  refine wpO_nil (fun wz hwz => ?_)
  have q0 := (show Ext w00 wz from (by repeat (first | exact Ext.refl _ | assumption | refine Ext.alloc ?_ _ | refine Ext.drew ?_ | refine Ext.trans ?_ (by assumption)))).keep q0
  have q1 := (show Ext w00 wz from (by repeat (first | exact Ext.refl _ | assumption | refine Ext.alloc ?_ _ | refine Ext.drew ?_ | refine Ext.trans ?_ (by assumption)))).keep q1
  have p0 := (show Ext w00 wz from (by repeat (first | exact Ext.refl _ | assumption | refine Ext.alloc ?_ _ | refine Ext.drew ?_ | refine Ext.trans ?_ (by assumption)))).keep p0
  have p1 := (show Ext w00 wz from (by repeat (first | exact Ext.refl _ | assumption | refine Ext.alloc ?_ _ | refine Ext.drew ?_ | refine Ext.trans ?_ (by assumption)))).keep p1
  go_wp2_with fail
  refine (toP_rd _ _ _ _ _ (hR.ext (by repeat (first | exact Ext.refl _ | assumption | refine Ext.alloc ?_ _ | refine Ext.drew ?_ | refine Ext.trans ?_ (by assumption)))) hbl HB.out).mono ?_
  rintro e w4 ⟨a5, rfl, hR2, hw4⟩
  have q0 := (show Ext wz w4 from (by repeat (first | exact Ext.refl _ | assumption | refine Ext.alloc ?_ _ | refine Ext.drew ?_ | refine Ext.trans ?_ (by assumption)))).keep q0
  have q1 := (show Ext wz w4 from (by repeat (first | exact Ext.refl _ | assumption | refine Ext.alloc ?_ _ | refine Ext.drew ?_ | refine Ext.trans ?_ (by assumption)))).keep q1
  have p0 := (show Ext wz w4 from (by repeat (first | exact Ext.refl _ | assumption | refine Ext.alloc ?_ _ | refine Ext.drew ?_ | refine Ext.trans ?_ (by assumption)))).keep p0
  have p1 := (show Ext wz w4 from (by repeat (first | exact Ext.refl _ | assumption | refine Ext.alloc ?_ _ | refine Ext.drew ?_ | refine Ext.trans ?_ (by assumption)))).keep p1
  have x0 := new0 w4 (.int .i64 sz) [.slice a5 vs.length vs.length] 29
  have x1 := new1 w4 (.int .i64 sz) (.slice a5 vs.length vs.length) [] 29
  have hE5 := Ext.new w4 (.cells #[.int .i64 sz, .slice a5 vs.length vs.length] 29)
  go_wp2_with fail
  refine (toP_rd _ _ _ _ _ (hT.ext (by repeat (first | exact Ext.refl _ | assumption | refine Ext.alloc ?_ _ | refine Ext.drew ?_ | refine Ext.trans ?_ (by assumption)))) hbt HT.out).mono ?_
  rintro e w5 ⟨a6, rfl, hT2, hw5⟩
  have q0 := (show Ext w4 w5 from (by repeat (first | exact Ext.refl _ | assumption | refine Ext.alloc ?_ _ | refine Ext.drew ?_ | refine Ext.trans ?_ (by assumption)))).keep q0
  have q1 := (show Ext w4 w5 from (by repeat (first | exact Ext.refl _ | assumption | refine Ext.alloc ?_ _ | refine Ext.drew ?_ | refine Ext.trans ?_ (by assumption)))).keep q1
  have p0 := (show Ext w4 w5 from (by repeat (first | exact Ext.refl _ | assumption | refine Ext.alloc ?_ _ | refine Ext.drew ?_ | refine Ext.trans ?_ (by assumption)))).keep p0
  have p1 := (show Ext w4 w5 from (by repeat (first | exact Ext.refl _ | assumption | refine Ext.alloc ?_ _ | refine Ext.drew ?_ | refine Ext.trans ?_ (by assumption)))).keep p1
  have x0 := hw5.keep x0
  have x1 := hw5.keep x1
  have y0 := new0 w5 (.int .i64 sz2) [.slice a6 ts.length ts.length] 29
  have y1 := new1 w5 (.int .i64 sz2) (.slice a6 ts.length ts.length) [] 29
  have hE6 := Ext.new w5 (.cells #[.int .i64 sz2, .slice a6 ts.length ts.length] 29)
  have q0 := hE6.keep q0
  have q1 := hE6.keep q1
  have p0 := hE6.keep p0
  have p1 := hE6.keep p1
  have x0 := hE6.keep x0
  have x1 := hE6.keep x1
  go_wp2_with fail
  refine (set_impl _ _ _ _ _ _ _ _ _ _ (hR2.ext (by repeat (first | exact Ext.refl _ | assumption | refine Ext.alloc ?_ _ | refine Ext.drew ?_ | refine Ext.trans ?_ (by assumption)))) (hT2.ext (by repeat (first | exact Ext.refl _ | assumption | refine Ext.alloc ?_ _ | refine Ext.drew ?_ | refine Ext.trans ?_ (by assumption))))).mono ?_
  rintro e w6 ⟨rfl, hw6⟩
  have q0 := hw6.keep q0
  have q1 := hw6.keep q1
  have p0 := hw6.keep p0
  have p1 := hw6.keep p1
  have x0 := hw6.keep x0
  have x1 := hw6.keep x1
  have y0 := hw6.keep y0
  have y1 := hw6.keep y1
  go_wp2_with fail
  refine wp_region_X (by kernel_rfl) (by kernel_rfl) ?_
  repeat' (refine wpX_stepQ (fun K hK => ?_)
           go_simp
           try (rw [if_neg (by intro h; simp [undef] at h)])
           try split
           all_goals
             first
             | (refine hK _ ?_
                clear hK K)
             | (apply Exists.intro
                refine ⟨fun wq hwq => ?_, hK _ ?_⟩
                · have hcq := hwq.cellS
                  go_simp
                  first
                  | exact ⟨Ext.refl _, rfl⟩
                clear hK K))
  refine wpX_stepS rfl (by kernel_rfl) (fun K hK wq hwq => ?_)
  go_simp
  refine (toP_rd _ _ _ _ _ (hR.ext (by repeat (first | exact Ext.refl _ | assumption | refine Ext.alloc ?_ _ | refine Ext.drew ?_ | refine Ext.trans ?_ (by assumption)))) hbl HB.out).mono ?_
  rintro e w7 ⟨a7, rfl, hR7, hw7⟩
  refine ⟨hw7, hK _ _ ?_⟩
  clear hK K
  repeat' (refine wpX_stepQ (fun K hK => ?_)
           go_simp
           try (rw [if_neg (by intro h; simp [undef] at h)])
           try split
           all_goals
             first
             | (refine hK _ ?_
                clear hK K)
             | (apply Exists.intro
                refine ⟨fun wq hwq => ?_, hK _ ?_⟩
                · have hcq := hwq.cellS
                  go_simp
                  first
                  | exact ⟨Ext.refl _, rfl⟩
                  | exact ⟨Ext.refl _, eqP _ _ _ _ _ _ _ (hR2.ext (by repeat (first | exact Ext.refl _ | assumption | refine Ext.alloc ?_ _ | refine Ext.drew ?_ | refine Ext.trans ?_ (by assumption)))) (hR7.ext (by repeat (first | exact Ext.refl _ | assumption | refine Ext.alloc ?_ _ | refine Ext.drew ?_ | refine Ext.trans ?_ (by assumption)))) (by omega) HB2.out⟩
                clear hK K))
  refine wpX_nil (fun wy hwy => ?_)
  have q0 := (show Ext w6 wy from (by repeat (first | exact Ext.refl _ | assumption | refine Ext.alloc ?_ _ | refine Ext.drew ?_ | refine Ext.trans ?_ (by assumption)))).keep q0
  have q1 := (show Ext w6 wy from (by repeat (first | exact Ext.refl _ | assumption | refine Ext.alloc ?_ _ | refine Ext.drew ?_ | refine Ext.trans ?_ (by assumption)))).keep q1
  have p0 := (show Ext w6 wy from (by repeat (first | exact Ext.refl _ | assumption | refine Ext.alloc ?_ _ | refine Ext.drew ?_ | refine Ext.trans ?_ (by assumption)))).keep p0
  have p1 := (show Ext w6 wy from (by repeat (first | exact Ext.refl _ | assumption | refine Ext.alloc ?_ _ | refine Ext.drew ?_ | refine Ext.trans ?_ (by assumption)))).keep p1
  have x0 := (show Ext w6 wy from (by repeat (first | exact Ext.refl _ | assumption | refine Ext.alloc ?_ _ | refine Ext.drew ?_ | refine Ext.trans ?_ (by assumption)))).keep x0
  have x1 := (show Ext w6 wy from (by repeat (first | exact Ext.refl _ | assumption | refine Ext.alloc ?_ _ | refine Ext.drew ?_ | refine Ext.trans ?_ (by assumption)))).keep x1
  have y0 := (show Ext w6 wy from (by repeat (first | exact Ext.refl _ | assumption | refine Ext.alloc ?_ _ | refine Ext.drew ?_ | refine Ext.trans ?_ (by assumption)))).keep y0
  have y1 := (show Ext w6 wy from (by repeat (first | exact Ext.refl _ | assumption | refine Ext.alloc ?_ _ | refine Ext.drew ?_ | refine Ext.trans ?_ (by assumption)))).keep y1
  go_wp2
  refine wp_region_X (by kernel_rfl) (by kernel_rfl) ?_
  repeat' (refine wpX_stepQ (fun K hK => ?_)
           go_simp
           try (rw [if_neg (by intro h; simp [undef] at h)])
           try split
           all_goals
             first
             | (refine hK _ ?_
                clear hK K)
             | (apply Exists.intro
                refine ⟨fun wq hwq => ?_, hK _ ?_⟩
                · have hcq := hwq.cellS
                  go_simp
                  first
                  | exact ⟨Ext.refl _, rfl⟩
                clear hK K))
  refine wpX_stepS rfl (by kernel_rfl) (fun K hK wq hwq => ?_)
  go_simp
  refine (toP_rd _ _ _ _ _ (hT.ext (by repeat (first | exact Ext.refl _ | assumption | refine Ext.alloc ?_ _ | refine Ext.drew ?_ | refine Ext.trans ?_ (by assumption)))) hbt HT.out).mono ?_
  rintro e w8 ⟨a8, rfl, hT8, hw8⟩
  refine ⟨hw8, hK _ _ ?_⟩
  clear hK K
  repeat' (refine wpX_stepQ (fun K hK => ?_)
           go_simp
           try (rw [if_neg (by intro h; simp [undef] at h)])
           try split
           all_goals
             first
             | (refine hK _ ?_
                clear hK K)
             | (apply Exists.intro
                refine ⟨fun wq hwq => ?_, hK _ ?_⟩
                · have hcq := hwq.cellS
                  go_simp
                  first
                  | exact ⟨Ext.refl _, rfl⟩
                  | exact ⟨Ext.refl _, eqP _ _ _ _ _ _ _ (hT2.ext (by repeat (first | exact Ext.refl _ | assumption | refine Ext.alloc ?_ _ | refine Ext.drew ?_ | refine Ext.trans ?_ (by assumption)))) (hT8.ext (by repeat (first | exact Ext.refl _ | assumption | refine Ext.alloc ?_ _ | refine Ext.drew ?_ | refine Ext.trans ?_ (by assumption)))) (by omega) HT2.out⟩
                clear hK K))
  refine wpX_nil (fun wx hwx => ?_)
  go_wp2
  go_ret
  exact ⟨rfl, (by repeat (first | exact Ext.refl _ | assumption | refine Ext.alloc ?_ _ | refine Ext.drew ?_ | refine Ext.trans ?_ (by assumption)))⟩

section
open Go.ChangeShapes Go.WideShapes Go.ChangeAt Go.RowKit Go.Joins Go.Deep
set_option maxRecDepth 100000 in
theorem fnExactIsSettled_lifted (os : Os) (started : os.Started) (H : Type) (enc : TypeId × Value → H) :
    ReturnsInHanded {} Tryz.checked os 13 .any (Rows.fnExactIsSettledSpec.pre6 enc Tryz.prog Tryz.f13 Rows.fnExactIsSettledRow.domain false) (Rows.fnExactIsSettledSpec.post enc Tryz.prog Tryz.f13 false true false false) := by
  refine returnsInHanded_of_change (C := Tryz.checked) own started (by kernel_rfl) Tryz.func13
    (ChangeSpec.witness6 (enc := enc) (C := Tryz.checked) false ⟨#[], #[.int .i64 0, .agg #[.int .i64 0, .slice Option.none 0 0], .agg #[.int .i64 0, .slice Option.none 0 0]], []⟩ 8 (by kernel_rfl) (by kernel_rfl) (by kernel_rfl) (by kernel_rfl)) ?_
  intro W base args ds gs before hval0 hW hcnd _
  have hval : ∀ (j : Nat) t v, Tryz.f13.params[j]? = some t → args[j]? = some v → Value.okWide Tryz.prog W .any base t v := hval0
  have hW' := hW
  obtain ⟨p, q, hA0, hV, rfl, hfz, hnd⟩ := hW
  have hA : DataW.TrodAll enc Tryz.prog W 0 (fun _ => true) true Tryz.f13.params.toList args.toList ds p := hA0
  rw [Tryz.params13] at hA hval
  obtain ⟨v0, vs0, d0, ds0, p0, q0, hargs, rfl, rfl, h0, r0⟩ := trodAll_cons hA
  obtain ⟨v1, vs1, d1, ds1, p1, q1, rfl, rfl, rfl, h1, r1⟩ := trodAll_cons r0
  obtain ⟨v2, vs2, d2, ds2, p2, q2, rfl, rfl, rfl, h2, r2⟩ := trodAll_cons r1
  obtain ⟨rfl, rfl, rfl⟩ := trodAll_nil r2
  obtain rfl : args = #[v0, v1, v2] := by cases args; simp_all
  obtain ⟨rfl, rfl⟩ := trodVars_none hV
  have k0 := h0
  have lt0 : ∀ x ∈ p0, x.block < W.heap.size := by obtain ⟨m, hm⟩ := k0; exact DataW.trod_lt m _ _ _ hm
  have k1 := h1
  have lt1 : ∀ x ∈ p1, x.block < W.heap.size := by obtain ⟨m, hm⟩ := k1; exact DataW.trod_lt m _ _ _ hm
  have k2 := h2
  have lt2 : ∀ x ∈ p2, x.block < W.heap.size := by obtain ⟨m, hm⟩ := k2; exact DataW.trod_lt m _ _ _ hm
  obtain ⟨x0, rfl, rfl, rfl, w0⟩ := open_int Tryz.underlying3 (hval 0 3 v0 rfl rfl) h0
  obtain ⟨sz1, a1, vs1, c1, rfl, hR1, hl1, hm1⟩ := openP (hval 1 24 v1 rfl rfl) h1
  obtain ⟨sz2, a2, vs2, c2, rfl, hR2, hl2, hm2⟩ := openP (hval 2 24 v2 rfl rfl) h2
  clear hA0 hval0
  refine (set_law W x0 sz1 a1 c1 vs1 sz2 a2 c2 vs2 hR1 hl1 hm1 hR2 hl2 hm2).mono fun e W' ⟨he, bel⟩ => ?_
  subst he
  exact ⟨_, rfl, _, _, _, [], _, [], hW', trodAll_mk1 (shut_bool Tryz.underlying4 _), (trodAll_cons_mk (shut_int Tryz.underlying3 w0) (trodAll_cons_mk (Below.trod laidOut (by kernel_rfl) (of_decide_eq_true (by kernel_rfl)) k1 bel lt1) (trodAll_cons_mk (Below.trod laidOut (by kernel_rfl) (of_decide_eq_true (by kernel_rfl)) k2 bel lt2) trodAll_mk0))), rfl, bel.frame _, fun h => by cases h⟩
end

end Go.Proofs.YtblkbdfndbpndaaGreat
