/- FnExactDropCandidate answers true at every input. -/
import Derived.Test.YtafdedgckbhhjaaCk19
import Derived.Test.YtafdedgckbhhjaaCk18
import Derived.Test.YtafdedgckbhhjaaDrpS
namespace Go.Proofs.Ytafdedgckbhhjaa
open Go.RowKit

set_option maxRecDepth 100000 in
set_option maxHeartbeats 8000000 in
theorem drp_law (w : World) (sz : Int) (a : Option Addr) (c : Nat) (vs : List Vt) (y : Int) (hR : RdV w a vs) (hl : vs.length ≤ maxLen) (hm : ∀ x ∈ vs, x.1.length ≤ maxLen) :
    Calls Try.prog 3 #[.agg #[.int .i64 sz, .slice a vs.length c], .int .i64 y] w fun e w' => e = .returned (.bool true) ∧ Ext w w' := by
  have HM := hide hm
  clear hm
  obtain ⟨Z, hZ⟩ : ∃ Z, Z = drpZ sz vs y := ⟨_, rfl⟩
  obtain ⟨B, hB0⟩ : ∃ B, B = drpB sz vs y := ⟨_, rfl⟩
  obtain ⟨rs, hrs⟩ : ∃ rs, rs = drpV sz vs y := ⟨_, rfl⟩
  have HS := hide (fun w' a' c' (h : RdV w' a' vs) => drp_spec w' sz a' c' vs y h)
  have HI := hide (fun w' a' c' (h : RdV w' a' vs) => drp_impl w' sz a' c' vs y h)
  have hok := drpV_ok sz vs y
  rw [← hZ, ← hB0, ← hrs] at HS HI
  rw [← hrs] at hok
  clear hZ hB0 hrs
  have hrl := hok.1
  have HRM : Hid (∀ x ∈ rs, x.1.length ≤ 2000000) := hide (fun x hx => Nat.le_trans (hok.2 x.1 (List.mem_map_of_mem hx)) (by decide))
  have HRM2 : Hid (∀ x ∈ rs.map Prod.fst, x.length ≤ 100) := hide (fun x hx => Nat.le_trans (hok.2 x hx) (by decide))
  clear hok
  have q0 := new0 w (.int .i64 sz) [.slice a vs.length c] 24
  have q1 := new1 w (.int .i64 sz) (.slice a vs.length c) [] 24
  go_enter Try.func3, Try.ntmps3
  go_wp2_with fail
  refine (szP _ _ _ _ _ _ (hR.ext (by repeat (first | exact Ext.refl _ | assumption | refine Ext.alloc ?_ _ | refine Ext.drew ?_ | refine Ext.trans ?_ (by assumption)))) hl HM.out (by decide) (by decide)).mono ?_
  rintro e w0 ⟨r, rfl, hw0, hr⟩
  have q0 := hw0.keep q0
  have q1 := hw0.keep q1
  by_cases hs : r < 0
  · go_wp2
    go_ret
    exact ⟨rfl, (by repeat (first | exact Ext.refl _ | assumption | refine Ext.alloc ?_ _ | refine Ext.drew ?_ | refine Ext.trans ?_ (by assumption)))⟩
  have hbl := (hr.bd hs).1
  have HB := hide (hr.bd hs).2
  have hbm2 : ∀ x ∈ vs, x.1.length ≤ 2000000 := fun x hx => Nat.le_trans (HB.out x hx) (by decide)
  have HB2 := hide hbm2
  clear hr hbm2
  have hE0 : Ext w w0 := (by repeat (first | exact Ext.refl _ | assumption | refine Ext.alloc ?_ _ | refine Ext.drew ?_ | refine Ext.trans ?_ (by assumption)))
  go_wp2_with fail
  refine (toP_rd _ _ _ _ _ (hR.ext hE0) hbl HB.out).mono ?_
  rintro e w1 ⟨a1, rfl, hR1, hw1⟩
  have q0 := hw1.keep q0
  have q1 := hw1.keep q1
  go_wp2_with fail
  refine (HS.out _ _ _ hR1).mono ?_
  rintro e w2 ⟨v0, rfl, hv0, hw2⟩
  have q0 := hw2.keep q0
  have q1 := hw2.keep q1
  obtain ⟨a0, c0, rfl, hV0, _⟩ := hv0
  have hE2 := hE0.trans (hw1.trans hw2)
  have s0 := new0 w2 (.int .i64 Z) [.slice a0 rs.length c0] 28
  have s1 := new1 w2 (.int .i64 Z) (.slice a0 rs.length c0) [] 28
  have hN := Ext.new w2 (.cells #[.int .i64 Z, .slice a0 rs.length c0] 28)
  have q0 := hN.keep q0
  have q1 := hN.keep q1
  have hV0 := hV0.ext hN
  have hE3 := hE2.trans hN
  clear hw0 hw1 hw2 hE0 hE2 hR1
  go_wp2_with fail
  generalize w2.alloc (.cells #[.int .i64 Z, .slice a0 rs.length c0] 28) = W3 at s0 s1 hN q0 q1 hV0 hE3 ⊢
  have hs3 := Ext.size hN
  have q0x := q0
  have q1x := q1
  have s0x := s0
  have s1x := s1
  refine (toP_mk _ _ _ _ _ (hR.ext hE3) hbl HB.out).mono ?_
  rintro e w4 ⟨ax, rfl, hRx, hMx, hw4⟩
  have q0 := hw4.keep q0
  have q1 := hw4.keep q1
  have s0 := hw4.keep s0
  have s1 := hw4.keep s1
  have x0 := new0 w4 (.int .i64 sz) [.slice ax vs.length vs.length] 28
  have x1 := new1 w4 (.int .i64 sz) (.slice ax vs.length vs.length) [] 28
  have hN4 := Ext.new w4 (.cells #[.int .i64 sz, .slice ax vs.length vs.length] 28)
  have hz4 : (w4.alloc (.cells #[.int .i64 sz, .slice ax vs.length vs.length] 28)).heap.size = w4.heap.size + 1 := by simp
  have q0 := hN4.keep q0
  have q1 := hN4.keep q1
  have s0 := hN4.keep s0
  have s1 := hN4.keep s1
  have hRx := hRx.ext hN4
  have hMx := hMx.ext hN4
  go_wp2_with fail
  generalize w4.alloc (.cells #[.int .i64 sz, .slice ax vs.length vs.length] 28) = W5 at x0 x1 hN4 hz4 q0 q1 s0 s1 hRx hMx ⊢
  have hE35 : Ext W3 W5 := hw4.trans hN4
  refine (HI.out _ _ _ hRx).mono ?_
  rintro e w6 ⟨v1, rfl, hv1, hw6⟩
  have q0 := hw6.keep q0
  have q1 := hw6.keep q1
  have s0 := hw6.keep s0
  have s1 := hw6.keep s1
  have x0 := hw6.keep x0
  have x1 := hw6.keep x1
  have hv1' := hv1
  obtain ⟨a9, c9, rfl, hV1, hzz⟩ := hv1'
  clear hzz
  have g0 := new0 w6 (.int .i64 Z) [.slice a9 rs.length c9] 28
  have g1 := new1 w6 (.int .i64 Z) (.slice a9 rs.length c9) [] 28
  have hN6 := Ext.new w6 (.cells #[.int .i64 Z, .slice a9 rs.length c9] 28)
  have q0 := hN6.keep q0
  have q1 := hN6.keep q1
  have s0 := hN6.keep s0
  have s1 := hN6.keep s1
  have x0 := hN6.keep x0
  have x1 := hN6.keep x1
  have hv1 := hv1.ext hN6
  have hV1 := hV1.ext hN6
  have hV1x : True := trivial
  have hE57 : Ext W5 (w6.alloc (.cells #[.int .i64 Z, .slice a9 rs.length c9] 28)) := hw6.trans hN6
  have hsz6 := hw6.size
  go_wp2_with fail
  generalize w6.alloc (.cells #[.int .i64 Z, .slice a9 rs.length c9] 28) = W7 at g0 g1 hN6 hv1 hV1 hE57 q0 q1 s0 s1 x0 x1 ⊢
  have hE37 : Ext W3 W7 := hE35.trans hE57
  clear hw6 hN6 hw4 hN4
  have hV0b := hV0.ext hE37
  refine (eqP _ _ _ _ _ _ _ hV1 hV0b (by omega) HRM.out).mono ?_
  rintro e w8 ⟨rfl, hw8⟩
  have q0 := hw8.keep q0
  have q1 := hw8.keep q1
  have s0 := hw8.keep s0
  have s1 := hw8.keep s1
  have x0 := hw8.keep x0
  have x1 := hw8.keep x1
  have g0 := hw8.keep g0
  have g1 := hw8.keep g1
  go_wp2
  refine wp_region_X (by kernel_rfl) (by kernel_rfl) ?_
  repeat' (refine wpX_stepQ (fun K hK => ?_)
           go_simp
           try (rw [if_neg (by intro h; simp [undef] at h)])
           try split
           all_goals
             first
             | (refine hK _ ?_
                clear hK K)
             | (apply Exists.intro
                refine ⟨fun wq hwq => ?_, hK _ ?_⟩
                · have hcq := hwq.cellS
                  go_simp
                  first
                  | exact ⟨Ext.refl _, rfl⟩
                clear hK K))
  refine wpX_stepS rfl (by kernel_rfl) (fun K hK wq hwq => ?_)
  go_simp
  refine (toP_rd _ _ _ _ _ (hR.ext (hE3.trans (hE37.trans (by repeat (first | exact Ext.refl _ | assumption | refine Ext.alloc ?_ _ | refine Ext.drew ?_ | refine Ext.trans ?_ (by assumption)))))) hbl HB.out).mono ?_
  rintro e w9 ⟨a10, rfl, hR10, hw9⟩
  refine ⟨hw9, hK _ _ ?_⟩
  clear hK K
  repeat' (refine wpX_stepQ (fun K hK => ?_)
           go_simp
           try (rw [if_neg (by intro h; simp [undef] at h)])
           try split
           all_goals
             first
             | (refine hK _ ?_
                clear hK K)
             | (apply Exists.intro
                refine ⟨fun wq hwq => ?_, hK _ ?_⟩
                · have hcq := hwq.cellS
                  go_simp
                  first
                  | exact ⟨Ext.refl _, rfl⟩
                  | exact ⟨Ext.refl _, eqP _ _ _ _ _ _ _ (hRx.ext (hE57.trans (by repeat (first | exact Ext.refl _ | assumption | refine Ext.alloc ?_ _ | refine Ext.drew ?_ | refine Ext.trans ?_ (by assumption))))) (hR10.ext (by repeat (first | exact Ext.refl _ | assumption | refine Ext.alloc ?_ _ | refine Ext.drew ?_ | refine Ext.trans ?_ (by assumption)))) (by omega) HB2.out⟩
                clear hK K))
  refine wpX_nil (fun wz hwz => ?_)
  have hE8 : Ext w8 wz := (by repeat (first | exact Ext.refl _ | assumption | refine Ext.alloc ?_ _ | refine Ext.drew ?_ | refine Ext.trans ?_ (by assumption)))
  have q0 := hE8.keep q0
  have q1 := hE8.keep q1
  have s0 := hE8.keep s0
  have s1 := hE8.keep s1
  have x0 := hE8.keep x0
  have x1 := hE8.keep x1
  have g0 := hE8.keep g0
  have g1 := hE8.keep g1
  have hE7z : Ext W7 wz := hw8.trans hE8
  clear hwz hw9 hwq hR10 hE8
  go_wp2_with fail
  refine (markP_mk _ _ _ _ _ _ _ (hMx.ext (hE57.trans hE7z)) hbl HB.out).mono ?_
  rintro e w10 ⟨mk, rfl, hmk, hO⟩
  have hE10 : Ext W3 w10 := Rng.ext (hE37.trans hE7z) hO (Nat.le_refl _)
  have hV0c := hV0.ext hE10
  have hsW3 := (hE35.trans hE57).size
  have Q0 := hE10.keep q0x
  have Q1 := hE10.keep q1x
  have S0 := hE10.keep s0x
  have S1 := hE10.keep s1x
  have g0 := hO.keep (.inr (by dsimp only; omega)) g0
  have g1 := hO.keep (.inr (by dsimp only; omega)) g1
  have hv1 := (hv1.ext hE7z).rng (by omega) hO
  have hv1' := hv1
  obtain ⟨a9', c9', he9, hV1, hzz⟩ := hv1'
  injection he9 with he9 _ he9c
  subst he9
  subst he9c
  clear hzz hO hE7z hw8 hV1x
  go_wp2_with fail
  refine (eqP _ _ _ _ _ _ _ hV1 hV0c (by omega) HRM.out).mono ?_
  rintro e w11 ⟨rfl, hw11⟩
  have Q0 := hw11.keep Q0
  have Q1 := hw11.keep Q1
  have S0 := hw11.keep S0
  have S1 := hw11.keep S1
  have g0 := hw11.keep g0
  have g1 := hw11.keep g1
  go_wp2_with fail
  have hv1 := hv1.ext hw11
  have hE11 : Ext W3 w11 := hE10.trans hw11
  have HH := hide (fun w' (h : MarkVt w' (.slice a9 rs.length c9) (rs.map Prod.fst) 1) => heldPV w' Z (.slice a9 rs.length c9) rs h (by omega) HRM2.out)
  have HMK := hide (markPV w11 W5.heap.size w6.heap.size Z (.slice a9 rs.length c9) rs hv1 (by omega) HRM2.out)
  have hMK : 0 ≤ mkAt (rs.map Prod.fst) 1 rs.length := by unfold mkAt; omega
  generalize mkAt (rs.map Prod.fst) 1 rs.length = MK at HH HMK hMK
  refine HMK.out.mono ?_
  rintro e w12 ⟨rfl, hO2, hM⟩
  have hW35 := hE35.size
  have hE12 : Ext W3 w12 := Rng.ext hE11 hO2 hW35
  have Q0 := hE12.keep q0x
  have Q1 := hE12.keep q1x
  have S0 := hE12.keep s0x
  have S1 := hE12.keep s1x
  have g0 := hO2.keep (.inr (by dsimp only; omega)) g0
  have g1 := hO2.keep (.inr (by dsimp only; omega)) g1
  clear HMK hO2 hv1 hw11 hE11
  go_wp2_with fail
  refine (HH.out _ hM).mono ?_
  rintro e w13 ⟨rfl, hw13⟩
  have Q0 := hw13.keep Q0
  have Q1 := hw13.keep Q1
  have S0 := hw13.keep S0
  have S1 := hw13.keep S1
  have g0 := hw13.keep g0
  have g1 := hw13.keep g1
  have hM := hM.ext hw13
  have hE13 := hE12.trans hw13
  go_wp2_with fail
  refine (toP_rd _ _ _ _ _ (hR.ext (hE3.trans hE13)) hbl HB.out).mono ?_
  rintro e w14 ⟨a14, rfl, hR14, hw14⟩
  have Q0 := hw14.keep Q0
  have Q1 := hw14.keep Q1
  have S0 := hw14.keep S0
  have S1 := hw14.keep S1
  have g0 := hw14.keep g0
  have g1 := hw14.keep g1
  have hM := hM.ext hw14
  go_wp2_with fail
  refine (HI.out _ _ _ hR14).mono ?_
  rintro e w15 ⟨v2, rfl, hv2, hw15⟩
  have Q0 := hw15.keep Q0
  have Q1 := hw15.keep Q1
  have S0 := hw15.keep S0
  have S1 := hw15.keep S1
  have g0 := hw15.keep g0
  have g1 := hw15.keep g1
  have hM := hM.ext hw15
  obtain ⟨a15, c15, rfl, hV2, hzz⟩ := hv2
  clear hzz
  have y0 := new0 w15 (.int .i64 Z) [.slice a15 rs.length c15] 28
  have y1 := new1 w15 (.int .i64 Z) (.slice a15 rs.length c15) [] 28
  have hN15 := Ext.new w15 (.cells #[.int .i64 Z, .slice a15 rs.length c15] 28)
  have Q0 := hN15.keep Q0
  have Q1 := hN15.keep Q1
  have S0 := hN15.keep S0
  have S1 := hN15.keep S1
  have g0 := hN15.keep g0
  have g1 := hN15.keep g1
  have hM := hM.ext hN15
  have hV2 := hV2.ext hN15
  have hE15 := hE13.trans (hw14.trans (hw15.trans hN15))
  have hV0d := hV0.ext hE15
  go_wp2_with fail
  generalize w15.alloc (.cells #[.int .i64 Z, .slice a15 rs.length c15] 28) = W16 at y0 y1 Q0 Q1 S0 S1 g0 g1 hM hV2 hV0d hE15 ⊢
  clear hN15
  refine (eqP _ _ _ _ _ _ _ hV2 hV0d (by omega) HRM.out).mono ?_
  rintro e w17 ⟨rfl, hw17⟩
  have Q0 := hw17.keep Q0
  have Q1 := hw17.keep Q1
  have S0 := hw17.keep S0
  have S1 := hw17.keep S1
  have g0 := hw17.keep g0
  have g1 := hw17.keep g1
  have hM := hM.ext hw17
  go_wp2_with fail
  refine (HH.out _ hM).mono ?_
  rintro e w18 ⟨rfl, hw18⟩
  go_wp2
  go_ret
  exact ⟨rfl, hE3.trans (hE15.trans (hw17.trans hw18))⟩

section
open Go.ChangeShapes Go.WideShapes Go.ChangeAt Go.RowKit Go.Joins Go.Deep
set_option maxRecDepth 100000 in
theorem fnExactDropCandidate_lifted (os : Os) (started : os.Started) (H : Type) (enc : TypeId × Value → H) :
    ReturnsInHanded {} Try.checked os 3 .any (Rows.fnExactDropCandidateSpec.pre6 enc Try.prog Try.f3 Rows.fnExactDropCandidateRow.domain false) (Rows.fnExactDropCandidateSpec.post enc Try.prog Try.f3 false true false false) := by
  refine returnsInHanded_of_change (C := Try.checked) own started (by kernel_rfl) Try.func3
    (ChangeSpec.witness6 (enc := enc) (C := Try.checked) false ⟨#[], #[.agg #[.int .i64 0, .slice Option.none 0 0], .int .i64 0], []⟩ 8 (by kernel_rfl) (by kernel_rfl) (by kernel_rfl) (by kernel_rfl)) ?_
  intro W base args ds gs before hval0 hW hcnd _
  have hval : ∀ (j : Nat) t v, Try.f3.params[j]? = some t → args[j]? = some v → Value.okWide Try.prog W .any base t v := hval0
  have hW' := hW
  obtain ⟨p, q, hA0, hV, rfl, hfz, hnd⟩ := hW
  have hA : DataW.TrodAll enc Try.prog W 0 (fun _ => true) true Try.f3.params.toList args.toList ds p := hA0
  rw [Try.params3] at hA hval
  obtain ⟨v0, vs0, d0, ds0, p0, q0, hargs, rfl, rfl, h0, r0⟩ := trodAll_cons hA
  obtain ⟨v1, vs1, d1, ds1, p1, q1, rfl, rfl, rfl, h1, r1⟩ := trodAll_cons r0
  obtain ⟨rfl, rfl, rfl⟩ := trodAll_nil r1
  obtain rfl : args = #[v0, v1] := by cases args; simp_all
  obtain ⟨rfl, rfl⟩ := trodVars_none hV
  have k0 := h0
  have lt0 : ∀ x ∈ p0, x.block < W.heap.size := by obtain ⟨m, hm⟩ := k0; exact DataW.trod_lt m _ _ _ hm
  have k1 := h1
  have lt1 : ∀ x ∈ p1, x.block < W.heap.size := by obtain ⟨m, hm⟩ := k1; exact DataW.trod_lt m _ _ _ hm
  obtain ⟨sz0, a0, vs0, c0, rfl, hR0, hl0, hm0⟩ := openP (hval 0 24 v0 rfl rfl) h0
  obtain ⟨x1, rfl, rfl, rfl, w1⟩ := open_int Try.underlying3 (hval 1 3 v1 rfl rfl) h1
  clear hA0 hval0
  refine (drp_law W sz0 a0 c0 vs0 x1 hR0 hl0 hm0).mono fun e W' ⟨he, bel⟩ => ?_
  subst he
  exact ⟨_, rfl, _, _, _, [], _, [], hW', trodAll_mk1 (shut_bool Try.underlying4 _), (trodAll_cons_mk (Below.trod laidOut (by kernel_rfl) (of_decide_eq_true (by kernel_rfl)) k0 bel lt0) (trodAll_cons_mk (shut_int Try.underlying3 w1) trodAll_mk0)), rfl, bel.frame _, fun h => by cases h⟩

set_option maxRecDepth 100000 in
theorem fnExactDropCandidate_holds : Rows.FnExactDropCandidateSaid :=
  OpenClaim.holds_of_wide 3 Try.f3 rfl rfl rfl rfl rfl rfl rfl ⟨rfl, rfl, rfl, rfl, rfl⟩ rfl rfl rfl rfl rfl (by kernel_rfl) Try.func3 (by kernel_rfl)
    (of_decide_eq_true (by kernel_rfl)) (by unfold Func.isWrapper; first | (rw [if_pos (by decide +kernel)]; kernel_rfl) | (rw [if_neg (by decide +kernel)]; exact ⟨rfl, rfl⟩))
    (fun os started H enc _ => fnExactDropCandidate_lifted os started H enc)
#print axioms fnExactDropCandidate_holds
end

end Go.Proofs.Ytafdedgckbhhjaa
