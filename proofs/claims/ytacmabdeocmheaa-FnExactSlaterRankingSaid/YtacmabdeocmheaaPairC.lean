/- Pair counts, margins and beats on both sides. -/
import Derived.Test.YtacmabdeocmheaaPair
namespace Go.Proofs.Ytacmabdeocmheaa
open Go.RowKit

def hasB (sz a : Int) : Bool := inR a 0 (sz - 1)

set_option maxRecDepth 100000 in
set_option maxHeartbeats 1000000 in
theorem cand_spec (w : World) (sz : Int) (a : Option Addr) (n c : Nat) (x : Int) (h1 : 1 ≤ sz) (h2 : sz ≤ 5) :
    Calls Try.prog 123 #[.agg #[.int .i64 sz, .slice a n c], .int .i64 x] w fun e w' => e = .returned (.bool (hasB sz x)) ∧ Ext w w' := by
  go_enter Try.func123, Try.ntmps123
  go_wp2_with (go_at_call 113; refine (in_spec _ _ _ _).mono ?_; rintro e w1 ⟨rfl, hw1⟩)
  go_ret
  exact ⟨rfl, (by repeat (first | exact Ext.refl _ | assumption | refine Ext.alloc ?_ _ | refine Ext.drew ?_ | refine Ext.trans ?_ (by assumption)))⟩

set_option maxRecDepth 100000 in
set_option maxHeartbeats 1000000 in
theorem cand_impl (w : World) (sz : Int) (a : Option Addr) (n c : Nat) (x : Int) (h1 : 1 ≤ sz) (h2 : sz ≤ 5) :
    Calls Try.prog 126 #[.agg #[.int .i64 sz, .slice a n c], .int .i64 x] w fun e w' => e = .returned (.bool (hasB sz x)) ∧ Ext w w' := by
  go_enter Try.func126, Try.ntmps126
  go_wp2_with (go_at_call 160; refine (in_impl _ _ _ _).mono ?_; rintro e w1 ⟨rfl, hw1⟩)
  go_ret
  exact ⟨rfl, (by repeat (first | exact Ext.refl _ | assumption | refine Ext.alloc ?_ _ | refine Ext.drew ?_ | refine Ext.trans ?_ (by assumption)))⟩

set_option maxRecDepth 100000 in
set_option maxHeartbeats 1000000 in
theorem pairI_spec (w : World) (sz : Int) (a : Option Addr) (c : Nat) (vs : List Vt) (x y : Int) (hR : RdV w a vs) (hS : SmallV sz vs) :
    Calls Try.prog 232 #[.agg #[.int .i64 sz, .slice a vs.length c], .int .i64 x, .int .i64 y] w fun e w' => e = .returned (.int .i64 (pairV vs x y)) ∧ Ext w w' := by
  have HS := hide hS
  have hl := hS.1
  clear hS
  go_enter Try.func232, Try.ntmps232
  go_wp2_with fail
  have hw := Ext.new w (.cells #[.int .i64 sz, .slice a vs.length c] 43)
  generalize w.alloc (.cells #[.int .i64 sz, .slice a vs.length c] 43) = W0 at hw ⊢
  go_loopw [7, 9, 13] (fun s _ i wr => ∃ k : Nat, k ≤ vs.length ∧ i = .int .i64 k ∧ s = .int .i64 (sumV (fun r => prefB r x y) (vs.take k)) ∧ Ext W0 wr) (fun _ _ i _ => vs.length - (intOf i).toNat)
  case atStart => exact ⟨0, Nat.zero_le _, rfl, rfl, (by repeat (first | exact Ext.refl _ | assumption | refine Ext.alloc ?_ _ | refine Ext.drew ?_ | refine Ext.trans ?_ (by assumption)))⟩
  case round =>
    obtain ⟨k, hk, rfl, rfl, hwr⟩ := hrel
    obtain ⟨b1, b2⟩ := sumV_bd HS.out k hk (p := fun r => prefB r x y)
    by_cases hlt : k < vs.length
    · obtain ⟨v, hx⟩ := at_of_lt hlt
      obtain ⟨b, off, a', c', rfl, c0, c1, hc', hRx⟩ := (hR.ext (hw.trans hwr)).at_ hx
      obtain ⟨x0, x1, x2⟩ := HS.out.2 v (List.mem_of_getElem? hx)
      have hvl := (rk_len x0).2
      have HX := hide hx
      clear hx x0
      cases hp : prefB v.1 x y
      all_goals
        go_wp2_with fail
        refine (pref_spec _ _ _ _ _ _ (hRx.ext (by repeat (first | exact Ext.refl _ | assumption | refine Ext.alloc ?_ _ | refine Ext.drew ?_ | refine Ext.trans ?_ (by assumption)))) (by omega)).mono ?_
        rintro e w1 ⟨rfl, hw1⟩
        have e1 := hw1.keep (new1 wr _ _ _ _)
        rw [hp]
        go_wp2
      · exact ⟨⟨k + 1, by omega, by go_num, by rw [sumV_at HX.out, hp]; simp, (by repeat (first | exact Ext.refl _ | assumption | refine Ext.alloc ?_ _ | refine Ext.drew ?_ | refine Ext.trans ?_ (by assumption)))⟩, by simp [intOf]; omega⟩
      · exact ⟨⟨k + 1, by omega, by go_num, by rw [sumV_at HX.out, hp]; simp, (by repeat (first | exact Ext.refl _ | assumption | refine Ext.alloc ?_ _ | refine Ext.drew ?_ | refine Ext.trans ?_ (by assumption)))⟩, by simp [intOf]; omega⟩
    · go_wp2
      go_ret
      exact ⟨ret_int (by rw [List.take_of_length_le (by omega)]; rfl), hw.trans hwr⟩

set_option maxRecDepth 100000 in
set_option maxHeartbeats 1000000 in
theorem pairF (w : World) (g1 g2 : Nat) (a : Option Addr) (c : Nat) (xs : List Int) (x y : Int) (h1 : w.cell? ⟨g1, 0, none⟩ = some (.int .i64 x)) (h2 : w.cell? ⟨g2, 0, none⟩ = some (.int .i64 y)) (hR : RdI w a xs) (hl : xs.length ≤ 2000000) :
    Calls Try.prog 252 #[.slice a xs.length c, .pointer (some ⟨g1, 0, none⟩), .pointer (some ⟨g2, 0, none⟩)] w fun e w' => e = .returned (.bool (prefB xs x y)) ∧ Ext w w' := by
  go_enter Try.func252, Try.ntmps252
  go_wp2_with (go_at_call 107; refine (pref_impl _ _ _ _ _ _ hR hl).mono ?_; rintro e w1 ⟨rfl, hw1⟩)
  go_ret
  exact ⟨rfl, (by repeat (first | exact Ext.refl _ | assumption | refine Ext.alloc ?_ _ | refine Ext.drew ?_ | refine Ext.trans ?_ (by assumption)))⟩

set_option maxRecDepth 100000 in
set_option maxHeartbeats 1000000 in
theorem pairI_impl (w : World) (sz : Int) (a : Option Addr) (c : Nat) (vs : List Vt) (x y : Int) (hR : RdV w a vs) (hS : SmallV sz vs) :
    Calls Try.prog 181 #[.agg #[.int .i64 sz, .slice a vs.length c], .int .i64 x, .int .i64 y] w fun e w' => e = .returned (.int .i64 (pairV vs x y)) ∧ Ext w w' := by
  have HS := hide hS
  clear hS
  go_enter Try.func181, Try.ntmps181
  go_wp2_with fail
  refine (votersV 252 _ _ (fun r => prefB r x y) _ sz _ _ vs (hR.ext (by repeat (first | exact Ext.refl _ | assumption | refine Ext.alloc ?_ _ | refine Ext.drew ?_ | refine Ext.trans ?_ (by assumption)))) HS.out Try.call252 ?_).mono ?_
  · intro v a' c' w' hv hw' hRv hc'
    exact pairF w' _ _ a' c' v.1 x y (hw'.keep (by go_simp)) (hw'.keep (by go_simp)) hRv (by have := (rk_len (HS.out.2 v hv).1).2; omega)
  rintro e w1 ⟨rfl, hw1⟩
  go_wp2
  go_ret
  exact ⟨rfl, (by repeat (first | exact Ext.refl _ | assumption | refine Ext.alloc ?_ _ | refine Ext.drew ?_ | refine Ext.trans ?_ (by assumption)))⟩

end Go.Proofs.Ytacmabdeocmheaa
