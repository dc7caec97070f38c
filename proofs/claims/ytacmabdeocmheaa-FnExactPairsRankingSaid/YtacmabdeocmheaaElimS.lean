/- Eliminations of the reference, and those of the three rules. -/
import Derived.Test.YtacmabdeocmheaaElim
import Derived.Test.YtacmabdeocmheaaPairs
namespace Go.Proofs.Ytacmabdeocmheaa
open Go.RowKit

def worF (vs : List Vt) (left : List Int) (x : Int) : Int := sumV (fsP left x) vs
def worL (vs : List Vt) (left : List Int) (x : Int) : Int := -sumV (lsP left x) vs
def worP (vs : List Vt) (left : List Int) (x : Int) : Int := (left.map (fun b => pairV vs x b)).sum

set_option maxRecDepth 100000 in
theorem pairs_bd {sz : Int} {vs : List Vt} (hS : SmallV sz vs) (x : Int) : ∀ left : List Int, 0 ≤ (left.map (fun b => pairV vs x b)).sum ∧ (left.map (fun b => pairV vs x b)).sum ≤ 24000 * left.length
  | [] => by simp
  | b :: left => by
    have h1 := pairs_bd hS x left
    have h2 : 0 ≤ pairV vs x b ∧ pairV vs x b ≤ 24000 := sumV_bd' hS
    simp only [List.map_cons, List.sum_cons, List.length_cons]
    omega

set_option maxRecDepth 100000 in
set_option maxHeartbeats 1000000 in
theorem instOne (w : World) (gp : Nat) (n : Nat) (a al : Option Addr) (c cl : Nat) (vs : List Vt) (left : List Int) (x : Int) (hR : RdV w a vs) (hS : SmallV n vs) (hL : RdI w al left) (hll : left.length ≤ 2000000)
    (h0 : w.cell? ⟨gp, 0, none⟩ = some (.int .i64 n)) (h1 : w.cell? ⟨gp, 1, none⟩ = some (.slice a vs.length c)) :
    Calls Try.prog 213 #[.slice al left.length cl, .int .i64 x, .pointer (some ⟨gp, 0, none⟩)] w fun e w' => e = .returned (.int .i64 (worF vs left x)) ∧ Ext w w' := by
  go_enter Try.func213, Try.ntmps213
  go_wp2_with (go_at_call 214; refine (first_impl _ _ _ _ _ _ _ _ _ (hR.ext (by repeat (first | exact Ext.refl _ | assumption | refine Ext.alloc ?_ _ | refine Ext.drew ?_ | refine Ext.trans ?_ (by assumption)))) hS (hL.ext (by repeat (first | exact Ext.refl _ | assumption | refine Ext.alloc ?_ _ | refine Ext.drew ?_ | refine Ext.trans ?_ (by assumption)))) hll).mono ?_; rintro e w1 ⟨rfl, hw1⟩)
  go_ret
  exact ⟨rfl, (by repeat (first | exact Ext.refl _ | assumption | refine Ext.alloc ?_ _ | refine Ext.drew ?_ | refine Ext.trans ?_ (by assumption)))⟩

set_option maxRecDepth 100000 in
set_option maxHeartbeats 1000000 in
theorem coomOne (w : World) (gp : Nat) (n : Nat) (a al : Option Addr) (c cl : Nat) (vs : List Vt) (left : List Int) (x : Int) (hR : RdV w a vs) (hS : SmallV n vs) (hL : RdI w al left) (hll : left.length ≤ 2000000)
    (h0 : w.cell? ⟨gp, 0, none⟩ = some (.int .i64 n)) (h1 : w.cell? ⟨gp, 1, none⟩ = some (.slice a vs.length c)) :
    Calls Try.prog 216 #[.slice al left.length cl, .int .i64 x, .pointer (some ⟨gp, 0, none⟩)] w fun e w' => e = .returned (.int .i64 (worL vs left x)) ∧ Ext w w' := by
  have hb : 0 ≤ sumV (lsP left x) vs ∧ sumV (lsP left x) vs ≤ 24000 := sumV_bd' hS
  have y1 : wrap64 (-sumV (lsP left x) vs) = -sumV (lsP left x) vs := IntWalk.wrap64_in _ (by omega)
  have y2 : IntKind.i64.wrap (-sumV (lsP left x) vs) = -sumV (lsP left x) vs := IntWalk.i64_in _ (by omega)
  clear hb
  go_enter Try.func216, Try.ntmps216
  go_wp2_with (go_at_call 208; refine (last_impl _ _ _ _ _ _ _ _ _ (hR.ext (by repeat (first | exact Ext.refl _ | assumption | refine Ext.alloc ?_ _ | refine Ext.drew ?_ | refine Ext.trans ?_ (by assumption)))) hS (hL.ext (by repeat (first | exact Ext.refl _ | assumption | refine Ext.alloc ?_ _ | refine Ext.drew ?_ | refine Ext.trans ?_ (by assumption)))) hll).mono ?_; rintro e w1 ⟨rfl, hw1⟩)
  go_ret
  exact ⟨rfl, (by repeat (first | exact Ext.refl _ | assumption | refine Ext.alloc ?_ _ | refine Ext.drew ?_ | refine Ext.trans ?_ (by assumption)))⟩

set_option maxRecDepth 100000 in
set_option maxHeartbeats 1000000 in
theorem baldOne (w : World) (gp : Nat) (n : Nat) (a al : Option Addr) (c cl : Nat) (vs : List Vt) (left : List Int) (x : Int) (hR : RdV w a vs) (hS : SmallV n vs) (hL : RdI w al left) (hll : left.length ≤ 5)
    (h0 : w.cell? ⟨gp, 0, none⟩ = some (.int .i64 n)) (h1 : w.cell? ⟨gp, 1, none⟩ = some (.slice a vs.length c)) :
    Calls Try.prog 215 #[.slice al left.length cl, .int .i64 x, .pointer (some ⟨gp, 0, none⟩)] w fun e w' => e = .returned (.int .i64 (worP vs left x)) ∧ Ext w w' := by
  have HS := hide hS
  clear hS
  go_enter Try.func215, Try.ntmps215
  go_wp2_with fail
  go_loopw [6, 8, 11] (fun s _ i wr => ∃ k : Nat, k ≤ left.length ∧ i = .int .i64 k ∧ s = .int .i64 (worP vs (left.take k) x) ∧ Ext w wr) (fun _ _ i _ => left.length - (intOf i).toNat)
  case atStart => exact ⟨0, Nat.zero_le _, rfl, rfl, Ext.refl _⟩
  case round =>
    obtain ⟨k, hk, rfl, rfl, hwr⟩ := hrel
    have r0 := hwr.keep h0
    have r1 := hwr.keep h1
    by_cases hlt : k < left.length
    · obtain ⟨b, hb⟩ := at_of_lt hlt
      obtain ⟨bb, off, rfl, d0⟩ := (hL.ext hwr).at_ hb
      have b1 := pairs_bd HS.out x (left.take k)
      rw [List.length_take] at b1
      have b2 : 0 ≤ pairV vs x b ∧ pairV vs x b ≤ 24000 := sumV_bd' HS.out
      have b3 : worP vs (left.take (k + 1)) x = worP vs (left.take k) x + pairV vs x b := by unfold worP; rw [take_at hb]; simp
      have b4 : 0 ≤ worP vs (left.take k) x ∧ worP vs (left.take k) x ≤ 120000 := by unfold worP; omega
      have HB := hide b3
      clear b1 b3 hb
      go_wp2_with (go_at_call 181; refine (pairI_impl _ _ _ _ _ _ _ ((hR.ext hwr).ext (by repeat (first | exact Ext.refl _ | assumption | refine Ext.alloc ?_ _ | refine Ext.drew ?_ | refine Ext.trans ?_ (by assumption)))) HS.out).mono ?_; rintro e w1 ⟨rfl, hw1⟩)
      exact ⟨⟨k + 1, by omega, by go_num, by rw [HB.out], (by repeat (first | exact Ext.refl _ | assumption | refine Ext.alloc ?_ _ | refine Ext.drew ?_ | refine Ext.trans ?_ (by assumption)))⟩, by simp [intOf]; omega⟩
    · go_wp2
      go_ret
      exact ⟨ret_int (by rw [List.take_of_length_le (by omega)]), hwr⟩

set_option maxRecDepth 100000 in
set_option maxHeartbeats 1000000 in
theorem inst_impl (w : World) (sz : Int) (a : Option Addr) (c : Nat) (vs : List Vt) (hR : RdV w a vs) :
    Calls Try.prog 97 #[.agg #[.int .i64 sz, .slice a vs.length c]] w fun e w' => ∃ v, e = .returned v ∧ OwnI w' w.heap.size v (elimO sz vs (worF vs)) ∧ Ext w w' := by
  have q0 := new0 w (.int .i64 sz) [.slice a vs.length c] 43
  have q1 := new1 w (.int .i64 sz) (.slice a vs.length c) [] 43
  go_enter Try.func97, Try.ntmps97
  go_wp2_with fail
  refine (elim_impl 213 #[.pointer (some ⟨w.heap.size, 0, none⟩)] (worF vs) _ sz a c vs (hR.ext (by repeat (first | exact Ext.refl _ | assumption | refine Ext.alloc ?_ _ | refine Ext.drew ?_ | refine Ext.trans ?_ (by assumption)))) Try.call213 (fun n left x al cl w' hn hn5 hS _ hll _ hw' hL => ?_)).mono ?_
  · subst hn
    exact instOne w' w.heap.size n a al c cl vs left x (hR.ext ((Ext.new w _).trans hw')) hS hL (by omega) (hw'.keep q0) (hw'.keep q1)
  rintro e w1 ⟨v, rfl, hv, hw1⟩
  go_wp2
  go_ret
  exact ⟨_, rfl, hv.base (Ext.size (by repeat (first | exact Ext.refl _ | assumption | refine Ext.alloc ?_ _ | refine Ext.drew ?_ | refine Ext.trans ?_ (by assumption)))), (by repeat (first | exact Ext.refl _ | assumption | refine Ext.alloc ?_ _ | refine Ext.drew ?_ | refine Ext.trans ?_ (by assumption)))⟩

set_option maxRecDepth 100000 in
set_option maxHeartbeats 1000000 in
theorem coom_impl (w : World) (sz : Int) (a : Option Addr) (c : Nat) (vs : List Vt) (hR : RdV w a vs) :
    Calls Try.prog 99 #[.agg #[.int .i64 sz, .slice a vs.length c]] w fun e w' => ∃ v, e = .returned v ∧ OwnI w' w.heap.size v (elimO sz vs (worL vs)) ∧ Ext w w' := by
  have q0 := new0 w (.int .i64 sz) [.slice a vs.length c] 43
  have q1 := new1 w (.int .i64 sz) (.slice a vs.length c) [] 43
  go_enter Try.func99, Try.ntmps99
  go_wp2_with fail
  refine (elim_impl 216 #[.pointer (some ⟨w.heap.size, 0, none⟩)] (worL vs) _ sz a c vs (hR.ext (by repeat (first | exact Ext.refl _ | assumption | refine Ext.alloc ?_ _ | refine Ext.drew ?_ | refine Ext.trans ?_ (by assumption)))) Try.call216 (fun n left x al cl w' hn hn5 hS _ hll _ hw' hL => ?_)).mono ?_
  · subst hn
    exact coomOne w' w.heap.size n a al c cl vs left x (hR.ext ((Ext.new w _).trans hw')) hS hL (by omega) (hw'.keep q0) (hw'.keep q1)
  rintro e w1 ⟨v, rfl, hv, hw1⟩
  go_wp2
  go_ret
  exact ⟨_, rfl, hv.base (Ext.size (by repeat (first | exact Ext.refl _ | assumption | refine Ext.alloc ?_ _ | refine Ext.drew ?_ | refine Ext.trans ?_ (by assumption)))), (by repeat (first | exact Ext.refl _ | assumption | refine Ext.alloc ?_ _ | refine Ext.drew ?_ | refine Ext.trans ?_ (by assumption)))⟩

set_option maxRecDepth 100000 in
set_option maxHeartbeats 1000000 in
theorem bald_impl (w : World) (sz : Int) (a : Option Addr) (c : Nat) (vs : List Vt) (hR : RdV w a vs) :
    Calls Try.prog 98 #[.agg #[.int .i64 sz, .slice a vs.length c]] w fun e w' => ∃ v, e = .returned v ∧ OwnI w' w.heap.size v (elimO sz vs (worP vs)) ∧ Ext w w' := by
  have q0 := new0 w (.int .i64 sz) [.slice a vs.length c] 43
  have q1 := new1 w (.int .i64 sz) (.slice a vs.length c) [] 43
  go_enter Try.func98, Try.ntmps98
  go_wp2_with fail
  refine (elim_impl 215 #[.pointer (some ⟨w.heap.size, 0, none⟩)] (worP vs) _ sz a c vs (hR.ext (by repeat (first | exact Ext.refl _ | assumption | refine Ext.alloc ?_ _ | refine Ext.drew ?_ | refine Ext.trans ?_ (by assumption)))) Try.call215 (fun n left x al cl w' hn hn5 hS _ hll _ hw' hL => ?_)).mono ?_
  · subst hn
    exact baldOne w' w.heap.size n a al c cl vs left x (hR.ext ((Ext.new w _).trans hw')) hS hL (by omega) (hw'.keep q0) (hw'.keep q1)
  rintro e w1 ⟨v, rfl, hv, hw1⟩
  go_wp2
  go_ret
  exact ⟨_, rfl, hv.base (Ext.size (by repeat (first | exact Ext.refl _ | assumption | refine Ext.alloc ?_ _ | refine Ext.drew ?_ | refine Ext.trans ?_ (by assumption)))), (by repeat (first | exact Ext.refl _ | assumption | refine Ext.alloc ?_ _ | refine Ext.drew ?_ | refine Ext.trans ?_ (by assumption)))⟩

end Go.Proofs.Ytacmabdeocmheaa
