/- How many rank a candidate behind, or before, all others that are left. -/
import Derived.Test.YtacmabdeocmheaaFun
import Derived.Test.YtacmabdeocmheaaPairC
namespace Go.Proofs.Ytacmabdeocmheaa
open Go.RowKit

def lsP (left : List Int) (x : Int) (r : List Int) : Bool := !(left.any (fun b => prefB r x b))
def fsP (left : List Int) (x : Int) (r : List Int) : Bool := !(left.any (fun b => prefB r b x))

set_option maxRecDepth 100000 in
set_option maxHeartbeats 1000000 in
theorem lastIn (w : World) (g1 g2 : Nat) (a : Option Addr) (c : Nat) (xs : List Int) (x b : Int) (h1 : w.cell? ⟨g1, 0, none⟩ = some (.slice a xs.length c)) (h2 : w.cell? ⟨g2, 0, none⟩ = some (.int .i64 x)) (hR : RdI w a xs) (hl : xs.length ≤ 2000000) :
    Calls Try.prog 260 #[.int .i64 b, .pointer (some ⟨g1, 0, none⟩), .pointer (some ⟨g2, 0, none⟩)] w fun e w' => e = .returned (.bool (prefB xs x b)) ∧ Ext w w' := by
  go_enter Try.func260, Try.ntmps260
  go_wp2_with (go_at_call 107; refine (pref_impl _ _ _ _ _ _ (hR.ext (by repeat (first | exact Ext.refl _ | assumption | refine Ext.alloc ?_ _ | refine Ext.drew ?_ | refine Ext.trans ?_ (by assumption)))) hl).mono ?_; rintro e w1 ⟨rfl, hw1⟩)
  go_ret
  exact ⟨rfl, (by repeat (first | exact Ext.refl _ | assumption | refine Ext.alloc ?_ _ | refine Ext.drew ?_ | refine Ext.trans ?_ (by assumption)))⟩

set_option maxRecDepth 100000 in
set_option maxHeartbeats 1000000 in
theorem lastCl (w : World) (gl ga : Nat) (al a : Option Addr) (cl c : Nat) (left xs : List Int) (x : Int) (h1 : w.cell? ⟨gl, 0, none⟩ = some (.slice al left.length cl)) (h2 : w.cell? ⟨ga, 0, none⟩ = some (.int .i64 x)) (hL : RdI w al left) (hR : RdI w a xs) (hl : xs.length ≤ 2000000) (hll : left.length ≤ 2000000) :
    Calls Try.prog 259 #[.slice a xs.length c, .pointer (some ⟨gl, 0, none⟩), .pointer (some ⟨ga, 0, none⟩)] w fun e w' => e = .returned (.bool (lsP left x xs)) ∧ Ext w w' := by
  have p0 := new0 w (.slice a xs.length c) [] 50
  have h1' := Ext.keep (Ext.new w (.cells #[.slice a xs.length c] 50)) h1
  have h2' := Ext.keep (Ext.new w (.cells #[.slice a xs.length c] 50)) h2
  go_enter Try.func259, Try.ntmps259
  go_wp2_with fail
  refine (containsFuncI 260 #[] #[.pointer (some ⟨w.heap.size, 0, none⟩), .pointer (some ⟨ga, 0, none⟩)] (fun b => prefB xs x b) _ al cl left (hL.ext (by repeat (first | exact Ext.refl _ | assumption | refine Ext.alloc ?_ _ | refine Ext.drew ?_ | refine Ext.trans ?_ (by assumption)))) hll Try.call260
    (fun b w' _ hw' => lastIn w' _ _ a c xs x b (hw'.keep p0) (hw'.keep h2') (hR.ext ((Ext.new _ _).trans hw')) hl)).mono ?_
  rintro e w1 ⟨rfl, hw1⟩
  go_wp2
  go_ret
  exact ⟨rfl, (by repeat (first | exact Ext.refl _ | assumption | refine Ext.alloc ?_ _ | refine Ext.drew ?_ | refine Ext.trans ?_ (by assumption)))⟩

set_option maxRecDepth 100000 in
set_option maxHeartbeats 1000000 in
theorem last_impl (w : World) (sz : Int) (a al : Option Addr) (c cl : Nat) (vs : List Vt) (left : List Int) (x : Int) (hR : RdV w a vs) (hS : SmallV sz vs) (hL : RdI w al left) (hll : left.length ≤ 2000000) :
    Calls Try.prog 208 #[.agg #[.int .i64 sz, .slice a vs.length c], .slice al left.length cl, .int .i64 x] w fun e w' => e = .returned (.int .i64 (sumV (lsP left x) vs)) ∧ Ext w w' := by
  have HS := hide hS
  clear hS
  go_enter Try.func208, Try.ntmps208
  go_wp2_with fail
  refine (votersV 259 _ _ (lsP left x) _ sz _ _ vs (hR.ext (by repeat (first | exact Ext.refl _ | assumption | refine Ext.alloc ?_ _ | refine Ext.drew ?_ | refine Ext.trans ?_ (by assumption)))) HS.out Try.call259 ?_).mono ?_
  · intro v a' c' w' hv hw' hRv hc'
    exact lastCl w' _ _ al a' cl c' left v.1 x (hw'.keep (by go_simp)) (hw'.keep (by go_simp)) (hL.ext ((show Ext w _ from (by repeat (first | exact Ext.refl _ | assumption | refine Ext.alloc ?_ _ | refine Ext.drew ?_ | refine Ext.trans ?_ (by assumption)))).trans hw')) hRv (by have := (rk_len (HS.out.2 v hv).1).2; omega) hll
  rintro e w1 ⟨rfl, hw1⟩
  go_wp2
  go_ret
  exact ⟨rfl, (by repeat (first | exact Ext.refl _ | assumption | refine Ext.alloc ?_ _ | refine Ext.drew ?_ | refine Ext.trans ?_ (by assumption)))⟩

set_option maxRecDepth 100000 in
set_option maxHeartbeats 1000000 in
theorem firstIn (w : World) (g1 g2 : Nat) (a : Option Addr) (c : Nat) (xs : List Int) (x b : Int) (h1 : w.cell? ⟨g1, 0, none⟩ = some (.slice a xs.length c)) (h2 : w.cell? ⟨g2, 0, none⟩ = some (.int .i64 x)) (hR : RdI w a xs) (hl : xs.length ≤ 2000000) :
    Calls Try.prog 262 #[.int .i64 b, .pointer (some ⟨g1, 0, none⟩), .pointer (some ⟨g2, 0, none⟩)] w fun e w' => e = .returned (.bool (prefB xs b x)) ∧ Ext w w' := by
  go_enter Try.func262, Try.ntmps262
  go_wp2_with (go_at_call 107; refine (pref_impl _ _ _ _ _ _ (hR.ext (by repeat (first | exact Ext.refl _ | assumption | refine Ext.alloc ?_ _ | refine Ext.drew ?_ | refine Ext.trans ?_ (by assumption)))) hl).mono ?_; rintro e w1 ⟨rfl, hw1⟩)
  go_ret
  exact ⟨rfl, (by repeat (first | exact Ext.refl _ | assumption | refine Ext.alloc ?_ _ | refine Ext.drew ?_ | refine Ext.trans ?_ (by assumption)))⟩

set_option maxRecDepth 100000 in
set_option maxHeartbeats 1000000 in
theorem firstCl (w : World) (gl ga : Nat) (al a : Option Addr) (cl c : Nat) (left xs : List Int) (x : Int) (h1 : w.cell? ⟨gl, 0, none⟩ = some (.slice al left.length cl)) (h2 : w.cell? ⟨ga, 0, none⟩ = some (.int .i64 x)) (hL : RdI w al left) (hR : RdI w a xs) (hl : xs.length ≤ 2000000) (hll : left.length ≤ 2000000) :
    Calls Try.prog 261 #[.slice a xs.length c, .pointer (some ⟨gl, 0, none⟩), .pointer (some ⟨ga, 0, none⟩)] w fun e w' => e = .returned (.bool (fsP left x xs)) ∧ Ext w w' := by
  have p0 := new0 w (.slice a xs.length c) [] 50
  have h1' := Ext.keep (Ext.new w (.cells #[.slice a xs.length c] 50)) h1
  have h2' := Ext.keep (Ext.new w (.cells #[.slice a xs.length c] 50)) h2
  go_enter Try.func261, Try.ntmps261
  go_wp2_with fail
  refine (containsFuncI 262 #[] #[.pointer (some ⟨w.heap.size, 0, none⟩), .pointer (some ⟨ga, 0, none⟩)] (fun b => prefB xs b x) _ al cl left (hL.ext (by repeat (first | exact Ext.refl _ | assumption | refine Ext.alloc ?_ _ | refine Ext.drew ?_ | refine Ext.trans ?_ (by assumption)))) hll Try.call262
    (fun b w' _ hw' => firstIn w' _ _ a c xs x b (hw'.keep p0) (hw'.keep h2') (hR.ext ((Ext.new _ _).trans hw')) hl)).mono ?_
  rintro e w1 ⟨rfl, hw1⟩
  go_wp2
  go_ret
  exact ⟨rfl, (by repeat (first | exact Ext.refl _ | assumption | refine Ext.alloc ?_ _ | refine Ext.drew ?_ | refine Ext.trans ?_ (by assumption)))⟩

set_option maxRecDepth 100000 in
set_option maxHeartbeats 1000000 in
theorem first_impl (w : World) (sz : Int) (a al : Option Addr) (c cl : Nat) (vs : List Vt) (left : List Int) (x : Int) (hR : RdV w a vs) (hS : SmallV sz vs) (hL : RdI w al left) (hll : left.length ≤ 2000000) :
    Calls Try.prog 214 #[.agg #[.int .i64 sz, .slice a vs.length c], .slice al left.length cl, .int .i64 x] w fun e w' => e = .returned (.int .i64 (sumV (fsP left x) vs)) ∧ Ext w w' := by
  have HS := hide hS
  clear hS
  go_enter Try.func214, Try.ntmps214
  go_wp2_with fail
  refine (votersV 261 _ _ (fsP left x) _ sz _ _ vs (hR.ext (by repeat (first | exact Ext.refl _ | assumption | refine Ext.alloc ?_ _ | refine Ext.drew ?_ | refine Ext.trans ?_ (by assumption)))) HS.out Try.call261 ?_).mono ?_
  · intro v a' c' w' hv hw' hRv hc'
    exact firstCl w' _ _ al a' cl c' left v.1 x (hw'.keep (by go_simp)) (hw'.keep (by go_simp)) (hL.ext ((show Ext w _ from (by repeat (first | exact Ext.refl _ | assumption | refine Ext.alloc ?_ _ | refine Ext.drew ?_ | refine Ext.trans ?_ (by assumption)))).trans hw')) hRv (by have := (rk_len (HS.out.2 v hv).1).2; omega) hll
  rintro e w1 ⟨rfl, hw1⟩
  go_wp2
  go_ret
  exact ⟨rfl, (by repeat (first | exact Ext.refl _ | assumption | refine Ext.alloc ?_ _ | refine Ext.drew ?_ | refine Ext.trans ?_ (by assumption)))⟩

end Go.Proofs.Ytacmabdeocmheaa
