/- Approvals compared whole. -/
import Derived.Test.YtacmabdeocmheaaLawA
namespace Go.Proofs.Ytacmabdeocmheaa
open Go.RowKit

set_option maxRecDepth 100000 in
set_option maxHeartbeats 1000000 in
theorem eqA (w : World) (s1 s2 : Int) (a1 a2 : Option Addr) (c1 c2 : Nat) (xs ys : List (Int × Int)) (hX : RdP w a1 xs) (hY : RdP w a2 ys) (hl : xs.length ≤ 2000000) :
    Calls Try.prog 20 #[.agg #[.int .i64 s1, .slice a1 xs.length c1], .agg #[.int .i64 s2, .slice a2 ys.length c2]] w fun e w' => e = .returned (.bool (decide (s1 = s2) && decide (xs = ys))) ∧ Ext w w' := by
  by_cases h1 : s1 = s2
  · subst h1
    cases h2 : decide (xs = ys)
    all_goals
      go_enter Try.func20, Try.ntmps20
      go_wp2_with (go_at_call 120; refine (eqAS _ _ _ _ _ _ _ (hX.ext (by repeat (first | exact Ext.refl _ | assumption | refine Ext.alloc ?_ _ | refine Ext.drew ?_ | refine Ext.trans ?_ (by assumption)))) (hY.ext (by repeat (first | exact Ext.refl _ | assumption | refine Ext.alloc ?_ _ | refine Ext.drew ?_ | refine Ext.trans ?_ (by assumption)))) hl).mono ?_; rintro e w1 ⟨rfl, hw1⟩; have hc1 := hw1.cellS; have hf1 := hw1.frozenS)
      go_ret
      exact ⟨ret_bool (by simp), (by repeat (first | exact Ext.refl _ | assumption | refine Ext.alloc ?_ _ | refine Ext.drew ?_ | refine Ext.trans ?_ (by assumption)))⟩
  · go_enter Try.func20, Try.ntmps20
    go_wp2
    go_ret
    exact ⟨ret_bool (by simp [h1]), (by repeat (first | exact Ext.refl _ | assumption | refine Ext.alloc ?_ _ | refine Ext.drew ?_ | refine Ext.trans ?_ (by assumption)))⟩

set_option maxRecDepth 100000 in
theorem toA_rd (w : World) (sz : Int) (a : Option Addr) (c : Nat) (bs : List (Int × Int)) (hR : RdP w a bs) (hl : bs.length ≤ 1048576) :
    Calls Try.prog 17 #[.agg #[.int .i64 sz, .slice a bs.length c]] w fun e w' => ∃ a', e = .returned (.agg #[.int .i64 sz, .slice a' bs.length bs.length]) ∧ RdP w' a' bs ∧ Ext w w' :=
  (toA w sz a c bs hR hl).mono fun _ _ ⟨g, _, he, _, hB, hf, hw⟩ => ⟨some ⟨g, 0, none⟩, he, hB.rdP (Nat.le_refl _) hf, hw⟩

end Go.Proofs.Ytacmabdeocmheaa
