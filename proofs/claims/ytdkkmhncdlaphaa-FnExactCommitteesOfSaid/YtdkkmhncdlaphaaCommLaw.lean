/- FnExactCommitteesOf answers true at every input. -/
import Derived.Test.YtdkkmhncdlaphaaHeld
import Derived.Test.YtdkkmhncdlaphaaComm
namespace Go.Proofs.Ytdkkmhncdlaphaa
open Go.RowKit

theorem commOf_len (sz k : Int) (bs : List (Int × Int)) : (commOf sz bs k).length ≤ 64 := by
  unfold commOf
  split
  · rename_i h
    have h1 : appOk sz bs = true := by simp only [Bool.and_eq_true] at h; exact h.1
    obtain ⟨hlo, hhi⟩ := ok_size h1
    have := top_le hlo hhi
    have := commTo_len (topOf sz + 1).toNat k
    omega
  · simp

set_option maxRecDepth 100000 in
set_option maxHeartbeats 4000000 in
theorem comm_law (w : World) (sz : Int) (a : Option Addr) (c : Nat) (bs : List (Int × Int)) (k : Int) (hR : RdP w a bs) (hl : bs.length ≤ maxLen) :
    Calls Try.prog 7 #[.agg #[.int .i64 sz, .slice a bs.length c], .int .i64 k] w fun e w' => e = .returned (.bool true) ∧ Ext w w' := by
  by_cases hs : szA bs.length 1048576 < 0
  · go_enter Try.func7, Try.ntmps7
    go_wp2_with (go_at_call 12; refine (szA_any _ _ _ _ _ _ hl (by decide) (by decide)).mono ?_; rintro e w1 ⟨rfl, hw1⟩; have hc1 := hw1.cellS; have hf1 := hw1.frozenS)
    go_ret
    exact ⟨rfl, (by repeat (first | exact Ext.refl _ | assumption | refine Ext.alloc ?_ _ | refine Ext.drew ?_ | refine Ext.trans ?_ (by assumption)))⟩
  · have hb : bs.length ≤ 1048576 := by unfold szA at hs; split at hs <;> omega
    have q0 := new0 w (.int .i64 sz) [.slice a bs.length c] 24
    have q1 := new1 w (.int .i64 sz) (.slice a bs.length c) [] 24
    have hxl := commOf_len sz k bs
    go_enter Try.func7, Try.ntmps7
    go_wp2_with (first | (go_at_call 12; refine (szA_any _ _ _ _ _ _ hl (by decide) (by decide)).mono ?_; rintro e w1 ⟨rfl, hw1⟩; have q0 := Ext.keep (w' := w1) (by repeat (first | exact Ext.refl _ | assumption | refine Ext.alloc ?_ _ | refine Ext.drew ?_ | refine Ext.trans ?_ (by assumption))) q0; have q1 := Ext.keep (w' := w1) (by repeat (first | exact Ext.refl _ | assumption | refine Ext.alloc ?_ _ | refine Ext.drew ?_ | refine Ext.trans ?_ (by assumption))) q1))
    refine (toA_rd _ _ _ _ _ (hR.ext (by repeat (first | exact Ext.refl _ | assumption | refine Ext.alloc ?_ _ | refine Ext.drew ?_ | refine Ext.trans ?_ (by assumption)))) hb).mono ?_
    rintro e w2 ⟨a1, rfl, hR1, hw2⟩
    have q0 := Ext.keep (w' := w2) (by repeat (first | exact Ext.refl _ | assumption | refine Ext.alloc ?_ _ | refine Ext.drew ?_ | refine Ext.trans ?_ (by assumption))) q0
    have q1 := Ext.keep (w' := w2) (by repeat (first | exact Ext.refl _ | assumption | refine Ext.alloc ?_ _ | refine Ext.drew ?_ | refine Ext.trans ?_ (by assumption))) q1
    go_wp2_with fail
    refine (comm_spec _ _ k _ _ _ (hR1.ext (by repeat (first | exact Ext.refl _ | assumption | refine Ext.alloc ?_ _ | refine Ext.drew ?_ | refine Ext.trans ?_ (by assumption))))).mono ?_
    rintro e w3 ⟨v0, rfl, hv0, hw3⟩
    have q0 := Ext.keep (w' := w3) (by repeat (first | exact Ext.refl _ | assumption | refine Ext.alloc ?_ _ | refine Ext.drew ?_ | refine Ext.trans ?_ (by assumption))) q0
    have q1 := Ext.keep (w' := w3) (by repeat (first | exact Ext.refl _ | assumption | refine Ext.alloc ?_ _ | refine Ext.drew ?_ | refine Ext.trans ?_ (by assumption))) q1
    have hV0 := hv0.fr.rdB
    go_wp2_with fail
    refine (toA_mk _ _ _ _ _ (hR.ext (by repeat (first | exact Ext.refl _ | assumption | refine Ext.alloc ?_ _ | refine Ext.drew ?_ | refine Ext.trans ?_ (by assumption)))) hb).mono ?_
    rintro e w4 ⟨ax, rfl, hRx, hMx, hw4⟩
    have q0 := Ext.keep (w' := w4) (by repeat (first | exact Ext.refl _ | assumption | refine Ext.alloc ?_ _ | refine Ext.drew ?_ | refine Ext.trans ?_ (by assumption))) q0
    have q1 := Ext.keep (w' := w4) (by repeat (first | exact Ext.refl _ | assumption | refine Ext.alloc ?_ _ | refine Ext.drew ?_ | refine Ext.trans ?_ (by assumption))) q1
    have p0 := new0 w4 (.int .i64 sz) [.slice ax bs.length bs.length] 29
    have p1 := new1 w4 (.int .i64 sz) (.slice ax bs.length bs.length) [] 29
    go_wp2_with fail
    refine (comm_impl _ _ k _ _ _ (hRx.ext (by repeat (first | exact Ext.refl _ | assumption | refine Ext.alloc ?_ _ | refine Ext.drew ?_ | refine Ext.trans ?_ (by assumption))))).mono ?_
    rintro e w5 ⟨v1, rfl, hv1, hw5⟩
    have q0 := Ext.keep (w' := w5) (by repeat (first | exact Ext.refl _ | assumption | refine Ext.alloc ?_ _ | refine Ext.drew ?_ | refine Ext.trans ?_ (by assumption))) q0
    have q1 := Ext.keep (w' := w5) (by repeat (first | exact Ext.refl _ | assumption | refine Ext.alloc ?_ _ | refine Ext.drew ?_ | refine Ext.trans ?_ (by assumption))) q1
    have p0 := Ext.keep (w' := w5) (by repeat (first | exact Ext.refl _ | assumption | refine Ext.alloc ?_ _ | refine Ext.drew ?_ | refine Ext.trans ?_ (by assumption))) p0
    have p1 := Ext.keep (w' := w5) (by repeat (first | exact Ext.refl _ | assumption | refine Ext.alloc ?_ _ | refine Ext.drew ?_ | refine Ext.trans ?_ (by assumption))) p1
    go_wp2_with (go_at_call 19; refine (eqI_same _ _ _ _ _ _ (hv1.fr.rdB.ext (by repeat (first | exact Ext.refl _ | assumption | refine Ext.alloc ?_ _ | refine Ext.drew ?_ | refine Ext.trans ?_ (by assumption)))) (hV0.ext (by repeat (first | exact Ext.refl _ | assumption | refine Ext.alloc ?_ _ | refine Ext.drew ?_ | refine Ext.trans ?_ (by assumption)))) (by omega)).mono ?_; rintro e w1 ⟨rfl, hw1⟩; have q0 := Ext.keep (w' := w1) (by repeat (first | exact Ext.refl _ | assumption | refine Ext.alloc ?_ _ | refine Ext.drew ?_ | refine Ext.trans ?_ (by assumption))) q0; have q1 := Ext.keep (w' := w1) (by repeat (first | exact Ext.refl _ | assumption | refine Ext.alloc ?_ _ | refine Ext.drew ?_ | refine Ext.trans ?_ (by assumption))) q1; have p0 := Ext.keep (w' := w1) (by repeat (first | exact Ext.refl _ | assumption | refine Ext.alloc ?_ _ | refine Ext.drew ?_ | refine Ext.trans ?_ (by assumption))) p0; have p1 := Ext.keep (w' := w1) (by repeat (first | exact Ext.refl _ | assumption | refine Ext.alloc ?_ _ | refine Ext.drew ?_ | refine Ext.trans ?_ (by assumption))) p1)
    refine wp_region_X (by kernel_rfl) (by kernel_rfl) ?_
    repeat' (refine wpX_stepQ (fun K hK => ?_)
             go_simp
             try split
             all_goals
               first
               | (refine hK _ ?_
                  clear hK K)
               | (apply Exists.intro
                  refine ⟨fun wq hwq => ?_, hK _ ?_⟩
                  · have hcq := hwq.cellS
                    go_simp
                    first
                    | exact ⟨Ext.refl _, rfl⟩
                  clear hK K))
    refine wpX_stepS rfl (by kernel_rfl) (fun K hK wq hwq => ?_)
    go_simp
    refine (toA_rd _ _ _ _ _ (hR.ext (by repeat (first | exact Ext.refl _ | assumption | refine Ext.alloc ?_ _ | refine Ext.drew ?_ | refine Ext.trans ?_ (by assumption)))) hb).mono ?_
    rintro e w6 ⟨a2, rfl, hR2, hw6⟩
    refine ⟨hw6, hK _ _ ?_⟩
    clear hK K
    repeat' (refine wpX_stepQ (fun K hK => ?_)
             go_simp
             try split
             all_goals
               first
               | (refine hK _ ?_
                  clear hK K)
               | (apply Exists.intro
                  refine ⟨fun wq hwq => ?_, hK _ ?_⟩
                  · have hcq := hwq.cellS
                    go_simp
                    first
                    | exact ⟨Ext.refl _, rfl⟩
                    | exact ⟨Ext.refl _, eqA _ _ _ _ _ _ _ _ _ (hRx.ext (by repeat (first | exact Ext.refl _ | assumption | refine Ext.alloc ?_ _ | refine Ext.drew ?_ | refine Ext.trans ?_ (by assumption)))) (hR2.ext (by repeat (first | exact Ext.refl _ | assumption | refine Ext.alloc ?_ _ | refine Ext.drew ?_ | refine Ext.trans ?_ (by assumption)))) (by omega)⟩
                  clear hK K))
    refine wpX_nil (fun wz hwz => ?_)
    have q0 := Ext.keep (w' := wz) (by repeat (first | exact Ext.refl _ | assumption | refine Ext.alloc ?_ _ | refine Ext.drew ?_ | refine Ext.trans ?_ (by assumption))) q0
    have q1 := Ext.keep (w' := wz) (by repeat (first | exact Ext.refl _ | assumption | refine Ext.alloc ?_ _ | refine Ext.drew ?_ | refine Ext.trans ?_ (by assumption))) q1
    have p0 := Ext.keep (w' := wz) (by repeat (first | exact Ext.refl _ | assumption | refine Ext.alloc ?_ _ | refine Ext.drew ?_ | refine Ext.trans ?_ (by assumption))) p0
    have p1 := Ext.keep (w' := wz) (by repeat (first | exact Ext.refl _ | assumption | refine Ext.alloc ?_ _ | refine Ext.drew ?_ | refine Ext.trans ?_ (by assumption))) p1
    go_wp2_with fail
    refine (markA_mk _ _ _ _ _ _ _ (hMx.ext (by repeat (first | exact Ext.refl _ | assumption | refine Ext.alloc ?_ _ | refine Ext.drew ?_ | refine Ext.trans ?_ (by assumption)))) hb).mono ?_
    rintro e w7 ⟨mk, rfl, hmk, hO7⟩
    have hs3 : (w.alloc (.cells #[.int .i64 sz, .slice a bs.length c] 24)).heap.size ≤ w3.heap.size := Ext.size (by repeat (first | exact Ext.refl _ | assumption | refine Ext.alloc ?_ _ | refine Ext.drew ?_ | refine Ext.trans ?_ (by assumption)))
    have hs4 : w4.heap.size ≤ (w4.alloc (.cells #[.int .i64 sz, .slice ax bs.length bs.length] 29)).heap.size := Ext.size (by repeat (first | exact Ext.refl _ | assumption | refine Ext.alloc ?_ _ | refine Ext.drew ?_ | refine Ext.trans ?_ (by assumption)))
    have hs34 : w3.heap.size ≤ w4.heap.size := Ext.size (by repeat (first | exact Ext.refl _ | assumption | refine Ext.alloc ?_ _ | refine Ext.drew ?_ | refine Ext.trans ?_ (by assumption)))
    have hs5 : (w4.alloc (.cells #[.int .i64 sz, .slice ax bs.length bs.length] 29)).heap.size ≤ w7.heap.size := Nat.le_trans (Ext.size (show Ext _ wz from (by repeat (first | exact Ext.refl _ | assumption | refine Ext.alloc ?_ _ | refine Ext.drew ?_ | refine Ext.trans ?_ (by assumption))))) hO7.size
    have hE : Ext (w.alloc (.cells #[.int .i64 sz, .slice a bs.length c] 24)) w7 := Rng.ext (by repeat (first | exact Ext.refl _ | assumption | refine Ext.alloc ?_ _ | refine Ext.drew ?_ | refine Ext.trans ?_ (by assumption))) hO7 hs3
    have hV7 := (hV0.ext (w' := wz) (by repeat (first | exact Ext.refl _ | assumption | refine Ext.alloc ?_ _ | refine Ext.drew ?_ | refine Ext.trans ?_ (by assumption)))).rng (Nat.le_refl _) hO7
    have hW7 := (hv1.ext (w' := wz) (by repeat (first | exact Ext.refl _ | assumption | refine Ext.alloc ?_ _ | refine Ext.drew ?_ | refine Ext.trans ?_ (by assumption)))).rng hs4 hO7
    clear hO7 hwz hw6 hwq hw5 hw4 hw3 hw2 hv0 hV0 hv1 hMx hRx hR1 hR2 p0 p1
    have q0 := hE.keep (new0 w _ _ _)
    have q1 := hE.keep (new1 w _ _ _ _)
    go_wp2_with (go_at_call 19; refine (eqI_same _ _ _ _ _ _ (hW7.fr.rdB.ext (by repeat (first | exact Ext.refl _ | assumption | refine Ext.alloc ?_ _ | refine Ext.drew ?_ | refine Ext.trans ?_ (by assumption)))) (hV7.ext (by repeat (first | exact Ext.refl _ | assumption | refine Ext.alloc ?_ _ | refine Ext.drew ?_ | refine Ext.trans ?_ (by assumption)))) (by omega)).mono ?_; rintro e w1 ⟨rfl, hw1⟩; have q0 := Ext.keep (w' := w1) (by repeat (first | exact Ext.refl _ | assumption | refine Ext.alloc ?_ _ | refine Ext.drew ?_ | refine Ext.trans ?_ (by assumption))) q0; have q1 := Ext.keep (w' := w1) (by repeat (first | exact Ext.refl _ | assumption | refine Ext.alloc ?_ _ | refine Ext.drew ?_ | refine Ext.trans ?_ (by assumption))) q1)
    have hs7 := Ext.size hw1
    refine (markI _ _ _ _ 1 (hW7.ext (by repeat (first | exact Ext.refl _ | assumption | refine Ext.alloc ?_ _ | refine Ext.drew ?_ | refine Ext.trans ?_ (by assumption)))) (by omega) (by omega) (by decide) (by decide)).mono ?_
    rintro e w9 ⟨rfl, g9, hg9, hO9, hM9⟩
    have hE9 : Ext (w.alloc (.cells #[.int .i64 sz, .slice a bs.length c] 24)) w9 := Only.ext (w := w1) (by repeat (first | exact Ext.refl _ | assumption | refine Ext.alloc ?_ _ | refine Ext.drew ?_ | refine Ext.trans ?_ (by assumption))) hO9 (by omega)
    have hV9 := (hV7.ext (w' := w1) (by repeat (first | exact Ext.refl _ | assumption | refine Ext.alloc ?_ _ | refine Ext.drew ?_ | refine Ext.trans ?_ (by assumption)))).only (by omega) hO9
    clear hO9 hw1 hE hV7 hW7
    have q0 := hE9.keep (new0 w _ _ _)
    have q1 := hE9.keep (new1 w _ _ _ _)
    go_wp2_with (first | (go_at_call 22; refine (heldI _ _ _ 1 (hM9.ext (by repeat (first | exact Ext.refl _ | assumption | refine Ext.alloc ?_ _ | refine Ext.drew ?_ | refine Ext.trans ?_ (by assumption)))) (by omega) (by decide) (by decide)).mono ?_; rintro e w1 ⟨rfl, hw1⟩; have q0 := Ext.keep (w' := w1) (by repeat (first | exact Ext.refl _ | assumption | refine Ext.alloc ?_ _ | refine Ext.drew ?_ | refine Ext.trans ?_ (by assumption))) q0; have q1 := Ext.keep (w' := w1) (by repeat (first | exact Ext.refl _ | assumption | refine Ext.alloc ?_ _ | refine Ext.drew ?_ | refine Ext.trans ?_ (by assumption))) q1))
    refine (toA_rd _ _ _ _ _ (hR.ext (by repeat (first | exact Ext.refl _ | assumption | refine Ext.alloc ?_ _ | refine Ext.drew ?_ | refine Ext.trans ?_ (by assumption)))) hb).mono ?_
    rintro e w11 ⟨a3, rfl, hR3, hw11⟩
    go_wp2_with fail
    refine (comm_impl _ _ k _ _ _ (hR3.ext (by repeat (first | exact Ext.refl _ | assumption | refine Ext.alloc ?_ _ | refine Ext.drew ?_ | refine Ext.trans ?_ (by assumption))))).mono ?_
    rintro e w12 ⟨v2, rfl, hv2, hw12⟩
    go_wp2_with (first | (go_at_call 19; refine (eqI_same _ _ _ _ _ _ (hv2.fr.rdB.ext (by repeat (first | exact Ext.refl _ | assumption | refine Ext.alloc ?_ _ | refine Ext.drew ?_ | refine Ext.trans ?_ (by assumption)))) (hV9.ext (by repeat (first | exact Ext.refl _ | assumption | refine Ext.alloc ?_ _ | refine Ext.drew ?_ | refine Ext.trans ?_ (by assumption)))) (by omega)).mono ?_; rintro e w1 ⟨rfl, hw1⟩) | (go_at_call 22; refine (heldI _ _ _ 1 (hM9.ext (by repeat (first | exact Ext.refl _ | assumption | refine Ext.alloc ?_ _ | refine Ext.drew ?_ | refine Ext.trans ?_ (by assumption)))) (by omega) (by decide) (by decide)).mono ?_; rintro e w1 ⟨rfl, hw1⟩))
    go_ret
    exact ⟨rfl, (by repeat (first | exact Ext.refl _ | assumption | refine Ext.alloc ?_ _ | refine Ext.drew ?_ | refine Ext.trans ?_ (by assumption)))⟩

section
open Go.ChangeShapes Go.WideShapes Go.ChangeAt Go.RowKit Go.Joins Go.Deep
set_option maxRecDepth 100000 in
theorem fnExactCommitteesOf_lifted (os : Os) (started : os.Started) (H : Type) (enc : TypeId × Value → H) :
    ReturnsInHanded {} Try.checked os 7 .any (Rows.fnExactCommitteesOfSpec.pre6 enc Try.prog Try.f7 Rows.fnExactCommitteesOfRow.domain false) (Rows.fnExactCommitteesOfSpec.post enc Try.prog Try.f7 false true false false) := by
  refine returnsInHanded_of_change (C := Try.checked) own started (by kernel_rfl) Try.func7
    (ChangeSpec.witness6 (enc := enc) (C := Try.checked) false ⟨#[], #[.agg #[.int .i64 0, .slice Option.none 0 0], .int .i64 0], []⟩ 8 (by kernel_rfl) (by kernel_rfl) (by kernel_rfl) (by kernel_rfl)) ?_
  intro W base args ds gs before hval0 hW hcnd _
  have hval : ∀ (j : Nat) t v, Try.f7.params[j]? = some t → args[j]? = some v → Value.okWide Try.prog W .any base t v := hval0
  have hW' := hW
  obtain ⟨p, q, hA0, hV, rfl, hfz, hnd⟩ := hW
  have hA : DataW.TrodAll enc Try.prog W 0 (fun _ => true) true Try.f7.params.toList args.toList ds p := hA0
  rw [Try.params7] at hA hval
  obtain ⟨v0, vs0, d0, ds0, p0, q0, hargs, rfl, rfl, h0, r0⟩ := trodAll_cons hA
  obtain ⟨v1, vs1, d1, ds1, p1, q1, rfl, rfl, rfl, h1, r1⟩ := trodAll_cons r0
  obtain ⟨rfl, rfl, rfl⟩ := trodAll_nil r1
  obtain rfl : args = #[v0, v1] := by cases args; simp_all
  obtain ⟨rfl, rfl⟩ := trodVars_none hV
  have k0 := h0
  have lt0 : ∀ x ∈ p0, x.block < W.heap.size := by obtain ⟨m, hm⟩ := k0; exact DataW.trod_lt m _ _ _ hm
  have k1 := h1
  have lt1 : ∀ x ∈ p1, x.block < W.heap.size := by obtain ⟨m, hm⟩ := k1; exact DataW.trod_lt m _ _ _ hm
  obtain ⟨sz0, a0, bs0, c0, rfl, hR0, hl0⟩ := openA (hval 0 24 v0 rfl rfl) h0
  obtain ⟨x1, rfl, rfl, rfl, w1⟩ := open_int Try.underlying3 (hval 1 3 v1 rfl rfl) h1
  clear hA0 hval0
  refine (comm_law W sz0 a0 c0 bs0 x1 hR0 hl0).mono fun e W' ⟨he, bel⟩ => ?_
  subst he
  exact ⟨_, rfl, _, _, _, [], _, [], hW', trodAll_mk1 (shut_bool Try.underlying4 _), (trodAll_cons_mk (Below.trod laidOut (by kernel_rfl) (of_decide_eq_true (by kernel_rfl)) k0 bel lt0) (trodAll_cons_mk (shut_int Try.underlying3 w1) trodAll_mk0)), rfl, bel.frame _, fun h => by cases h⟩

theorem fnExactCommitteesOf_holds : Rows.FnExactCommitteesOfSaid :=
  OpenClaim.holds_of_wide 7 Try.f7 rfl rfl rfl rfl rfl rfl rfl ⟨rfl, rfl, rfl, rfl, rfl⟩ rfl rfl rfl rfl rfl (by kernel_rfl) Try.func7 (by kernel_rfl)
    (of_decide_eq_true (by kernel_rfl)) (by unfold Func.isWrapper; first | (rw [if_pos (by decide +kernel)]; kernel_rfl) | (rw [if_neg (by decide +kernel)]; exact ⟨rfl, rfl⟩))
    (fun os started H enc _ => fnExactCommitteesOf_lifted os started H enc)
#print axioms fnExactCommitteesOf_holds
end
end Go.Proofs.Ytdkkmhncdlaphaa
