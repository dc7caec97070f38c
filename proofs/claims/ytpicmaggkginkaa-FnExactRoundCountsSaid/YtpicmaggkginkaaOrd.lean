/- The orders of elimination of the three rules. -/
import Derived.Test.YtpicmaggkginkaaElimU
namespace Go.Proofs.Ytpicmaggkginkaa
open Go.RowKit

set_option maxRecDepth 100000 in
set_option maxHeartbeats 1000000 in
theorem inst_spec (w : World) (sz : Int) (a : Option Addr) (c : Nat) (vs : List Vt) (hR : RdV w a vs) :
    Calls Try.prog 40 #[.agg #[.int .i64 sz, .slice a vs.length c]] w fun e w' => ∃ v, e = .returned v ∧ OwnI w' w.heap.size v (elimO sz vs (worF vs)) ∧ Ext w w' := by
  have H : ∀ w0, RdV w0 a vs → Calls Try.prog 83 #[.agg #[.int .i64 sz, .slice a vs.length c], .int .i64 0] w0 fun e w' => ∃ v, e = .returned v ∧ OwnI w' w0.heap.size v (elimO sz vs (worF vs)) ∧ Ext w0 w' := fun w0 h => order_spec w0 sz a c vs 0 (by decide) h
  have HH := hide H
  clear H
  go_enter Try.func40, Try.ntmps40
  go_wp2_with fail
  refine (HH.out _ (hR.ext (by repeat (first | exact Ext.refl _ | assumption | refine Ext.alloc ?_ _ | refine Ext.drew ?_ | refine Ext.trans ?_ (by assumption))))).mono ?_
  rintro e w1 ⟨v, rfl, hv, hw1⟩
  go_wp2
  go_ret
  exact ⟨_, rfl, hv.base (Ext.size (by repeat (first | exact Ext.refl _ | assumption | refine Ext.alloc ?_ _ | refine Ext.drew ?_ | refine Ext.trans ?_ (by assumption)))), (by repeat (first | exact Ext.refl _ | assumption | refine Ext.alloc ?_ _ | refine Ext.drew ?_ | refine Ext.trans ?_ (by assumption)))⟩

set_option maxRecDepth 100000 in
set_option maxHeartbeats 1000000 in
theorem coom_spec (w : World) (sz : Int) (a : Option Addr) (c : Nat) (vs : List Vt) (hR : RdV w a vs) :
    Calls Try.prog 38 #[.agg #[.int .i64 sz, .slice a vs.length c]] w fun e w' => ∃ v, e = .returned v ∧ OwnI w' w.heap.size v (elimO sz vs (worL vs)) ∧ Ext w w' := by
  have H : ∀ w0, RdV w0 a vs → Calls Try.prog 83 #[.agg #[.int .i64 sz, .slice a vs.length c], .int .i64 1] w0 fun e w' => ∃ v, e = .returned v ∧ OwnI w' w0.heap.size v (elimO sz vs (worL vs)) ∧ Ext w0 w' := fun w0 h => order_spec w0 sz a c vs 1 (by decide) h
  have HH := hide H
  clear H
  go_enter Try.func38, Try.ntmps38
  go_wp2_with fail
  refine (HH.out _ (hR.ext (by repeat (first | exact Ext.refl _ | assumption | refine Ext.alloc ?_ _ | refine Ext.drew ?_ | refine Ext.trans ?_ (by assumption))))).mono ?_
  rintro e w1 ⟨v, rfl, hv, hw1⟩
  go_wp2
  go_ret
  exact ⟨_, rfl, hv.base (Ext.size (by repeat (first | exact Ext.refl _ | assumption | refine Ext.alloc ?_ _ | refine Ext.drew ?_ | refine Ext.trans ?_ (by assumption)))), (by repeat (first | exact Ext.refl _ | assumption | refine Ext.alloc ?_ _ | refine Ext.drew ?_ | refine Ext.trans ?_ (by assumption)))⟩

set_option maxRecDepth 100000 in
set_option maxHeartbeats 1000000 in
theorem bald_spec (w : World) (sz : Int) (a : Option Addr) (c : Nat) (vs : List Vt) (hR : RdV w a vs) :
    Calls Try.prog 42 #[.agg #[.int .i64 sz, .slice a vs.length c]] w fun e w' => ∃ v, e = .returned v ∧ OwnI w' w.heap.size v (elimO sz vs (worP vs)) ∧ Ext w w' := by
  have H : ∀ w0, RdV w0 a vs → Calls Try.prog 83 #[.agg #[.int .i64 sz, .slice a vs.length c], .int .i64 2] w0 fun e w' => ∃ v, e = .returned v ∧ OwnI w' w0.heap.size v (elimO sz vs (worP vs)) ∧ Ext w0 w' := fun w0 h => order_spec w0 sz a c vs 2 (by decide) h
  have HH := hide H
  clear H
  go_enter Try.func42, Try.ntmps42
  go_wp2_with fail
  refine (HH.out _ (hR.ext (by repeat (first | exact Ext.refl _ | assumption | refine Ext.alloc ?_ _ | refine Ext.drew ?_ | refine Ext.trans ?_ (by assumption))))).mono ?_
  rintro e w1 ⟨v, rfl, hv, hw1⟩
  go_wp2
  go_ret
  exact ⟨_, rfl, hv.base (Ext.size (by repeat (first | exact Ext.refl _ | assumption | refine Ext.alloc ?_ _ | refine Ext.drew ?_ | refine Ext.trans ?_ (by assumption)))), (by repeat (first | exact Ext.refl _ | assumption | refine Ext.alloc ?_ _ | refine Ext.drew ?_ | refine Ext.trans ?_ (by assumption)))⟩

end Go.Proofs.Ytpicmaggkginkaa
