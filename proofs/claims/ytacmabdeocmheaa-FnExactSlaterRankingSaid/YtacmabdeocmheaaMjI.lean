/- The ranking in which each candidate beats all behind it, of the program. -/
import Derived.Test.YtacmabdeocmheaaAllI
import Derived.Test.YtacmabdeocmheaaMrk
import Derived.Test.YtacmabdeocmheaaBk
import Derived.Test.YtacmabdeocmheaaCondC
namespace Go.Proofs.Ytacmabdeocmheaa
open Go.RowKit

/-- The ranking, and whether there is one. -/
def mjL (sz : Int) (vs : List Vt) : List Int := if profOk sz vs then (mjO sz.toNat vs).getD [] else []
def mjB (sz : Int) (vs : List Vt) : Bool := if profOk sz vs then (mjO sz.toNat vs).isSome else false
set_option maxRecDepth 100000 in
theorem WrSS.own {w : World} {B : Nat} {v : Value} {xss : List (List Int)} (h : WrSS w B v xss) {k : Nat} {xs : List Int} (hx : xss[k]? = some xs) :
    ∃ g c a' c', v = .slice (some ⟨g, 0, none⟩) xss.length c ∧ w.cell? ⟨g, k, none⟩ = some (.slice a' xs.length c') ∧ xs.length ≤ c' ∧ OwnI w B (.slice a' xs.length c') xs := by
  obtain ⟨a, c, hv, hc, ho⟩ := h
  obtain ⟨g, us, rfl, hM⟩ := ho (ne_of_at hx)
  have h1 := hM.row k (lt_of_at hx)
  simp only [List.getD, hx, Option.getD_some] at h1
  obtain ⟨a', c', hu, hc', _, hR, _⟩ := h1.val
  refine ⟨g, c, a', c', hv, by rw [hM.outer.cell k (lt_of_at hx), hu], hc', ?_⟩
  rw [← hu]; exact h1

set_option maxRecDepth 100000 in
set_option maxHeartbeats 1000000 in
theorem mjOne (w : World) (g n : Nat) (a : Option Addr) (c : Nat) (vs : List Vt) (x y : Int) (h0 : w.cell? ⟨g, 0, none⟩ = some (.int .i64 n)) (h1 : w.cell? ⟨g, 1, none⟩ = some (.slice a vs.length c)) (hR : RdV w a vs) (hS : SmallV n vs) :
    Calls Try.prog 204 (#[] ++ (#[.int .i64 x, .int .i64 y] ++ #[.pointer (some ⟨g, 0, none⟩)])) w fun e w' => e = .returned (.bool (mjQ vs x y)) ∧ Ext w w' := by
  show Calls Try.prog 204 #[.int .i64 x, .int .i64 y, .pointer (some ⟨g, 0, none⟩)] w _
  go_enter Try.func204, Try.ntmps204
  go_wp2_with (go_at_call 138; refine (beats_impl _ _ _ _ _ _ _ (hR.ext (by repeat (first | exact Ext.refl _ | assumption | refine Ext.alloc ?_ _ | refine Ext.drew ?_ | refine Ext.trans ?_ (by assumption)))) hS).mono ?_; rintro e w1 ⟨rfl, hw1⟩)
  go_ret
  exact ⟨rfl, (by repeat (first | exact Ext.refl _ | assumption | refine Ext.alloc ?_ _ | refine Ext.drew ?_ | refine Ext.trans ?_ (by assumption)))⟩

set_option maxRecDepth 100000 in
set_option maxHeartbeats 4000000 in
theorem mj_impl (w : World) (sz : Int) (a : Option Addr) (c : Nat) (vs : List Vt) (hR : RdV w a vs) :
    Calls Try.prog 84 #[.agg #[.int .i64 sz, .slice a vs.length c]] w fun e w' => ∃ v, e = .returned (.tuple #[v, .bool (mjB sz vs)]) ∧ OwnI w' w.heap.size v (mjL sz vs) ∧ Ext w w' := by
  have q0 := new0 w (.int .i64 sz) [.slice a vs.length c] 43
  have q1 := new1 w (.int .i64 sz) (.slice a vs.length c) [] 43
  cases h0 : profOk sz vs
  · go_enter Try.func84, Try.ntmps84
    go_wp2_with (go_at_call 63; refine (prof_impl _ _ _ _ _ (hR.ext (by repeat (first | exact Ext.refl _ | assumption | refine Ext.alloc ?_ _ | refine Ext.drew ?_ | refine Ext.trans ?_ (by assumption))))).mono ?_; rintro e w1 ⟨rfl, hw1⟩; have q0 := Ext.keep (w' := w1) (by repeat (first | exact Ext.refl _ | assumption | refine Ext.alloc ?_ _ | refine Ext.drew ?_ | refine Ext.trans ?_ (by assumption))) q0; have q1 := Ext.keep (w' := w1) (by repeat (first | exact Ext.refl _ | assumption | refine Ext.alloc ?_ _ | refine Ext.drew ?_ | refine Ext.trans ?_ (by assumption))) q1)
    go_ret2
    exact ⟨.slice none 0 0, by simp [mjB, h0], by simp [mjL, h0]; exact OwnI.nil _ _, (by repeat (first | exact Ext.refl _ | assumption | refine Ext.alloc ?_ _ | refine Ext.drew ?_ | refine Ext.trans ?_ (by assumption)))⟩
  obtain ⟨n, rfl, n1, n2⟩ := prof_nat h0
  have HS := hide (prof_small h0)
  go_enter Try.func84, Try.ntmps84
  go_wp2_with (go_at_call 63; refine (prof_impl _ _ _ _ _ (hR.ext (by repeat (first | exact Ext.refl _ | assumption | refine Ext.alloc ?_ _ | refine Ext.drew ?_ | refine Ext.trans ?_ (by assumption))))).mono ?_; rintro e w1 ⟨rfl, hw1⟩; have q0 := Ext.keep (w' := w1) (by repeat (first | exact Ext.refl _ | assumption | refine Ext.alloc ?_ _ | refine Ext.drew ?_ | refine Ext.trans ?_ (by assumption))) q0; have q1 := Ext.keep (w' := w1) (by repeat (first | exact Ext.refl _ | assumption | refine Ext.alloc ?_ _ | refine Ext.drew ?_ | refine Ext.trans ?_ (by assumption))) q1)
  refine (allR_impl _ n n1 n2).mono ?_
  rintro e w2 ⟨v, rfl, hv, hw2⟩
  have hw : Ext w w2 := (by repeat (first | exact Ext.refl _ | assumption | refine Ext.alloc ?_ _ | refine Ext.drew ?_ | refine Ext.trans ?_ (by assumption)))
  have hlow : w.heap.size ≤ w1.heap.size := Ext.size (by repeat (first | exact Ext.refl _ | assumption | refine Ext.alloc ?_ _ | refine Ext.drew ?_ | refine Ext.trans ?_ (by assumption)))
  have q0 := hw2.keep q0
  have q1 := hw2.keep q1
  have hR2 := hR.ext hw
  have HM : Hid (∀ r ∈ allO n, rkOk n r = true) := fun r hr => (allO_mem n1 n2).1 hr
  have HL : Hid (mjL n vs = ((allO n).find? (mjOk vs)).getD []) := hide (by simp [mjL, h0, mjO])
  have HB : Hid (mjB n vs = ((allO n).find? (mjOk vs)).isSome) := hide (by simp [mjB, h0, mjO])
  have hrl : (allO n).length ≤ 3125 := Nat.le_trans (allS_len n2 n []) (Nat.pow_le_pow_right (n := 5) (by decide) n2)
  generalize allO n = rows at hv HM HL HB hrl
  have hv := hv.wr
  have hv' := hv
  obtain ⟨av, cv, rfl, hcv, hju⟩ := hv'
  clear hju hw1 hw2
  obtain ⟨wb, hwb⟩ : ∃ wb : World, wb = w2 := ⟨_, rfl⟩
  subst hwb
  go_wp2_with fail
  go_loopw [5, 13] (fun _ i wr => ∃ k : Nat, k ≤ rows.length ∧ i = .int .i64 k ∧ Hid ((rows.take k).all (fun r => !mjOk vs r) = true) ∧ Ext wb wr) (fun _ i _ => rows.length - (intOf i).toNat)
  case atStart => exact ⟨0, Nat.zero_le _, rfl, rfl, Ext.refl _⟩
  case round =>
    obtain ⟨k, hk, rfl, hall, hwr⟩ := hrel
    by_cases hkt : k < rows.length
    · obtain ⟨r, hr⟩ := at_of_lt hkt
      obtain ⟨g, c3, a3, c4, hav, d0, hc4, hO⟩ := (hv.ext hwr).own hr
      injection hav with hav hav2 hav3
      subst hav
      subst hav3
      clear hav2
      have hrk := rk_len (HM.out r (List.mem_of_getElem? hr))
      have hr5 : r.length ≤ 5 := hrk.2
      have HR := hide hr
      have r0 := hwr.keep q0
      have r1 := hwr.keep q1
      have hRr := hR2.ext hwr
      have HC := hide (back_impl 204 #[] #[.pointer (some ⟨w.heap.size, 0, none⟩)] (mjQ vs) wr n a vs.length c a3 c4 r hO.rdI hr5 hc4 Try.call204
        (fun x y w' _ _ hw' => mjOne w' w.heap.size n a c vs x y (hw'.keep r0) (hw'.keep r1) (hRr.ext hw') HS.out))
      clear hr hrk
      cases hm : mjOk vs r
      · have hz : (((bkI (mjQ vs) r : Nat) : Int) == 0) = false := by
          rw [beq_eq_false_iff_ne]
          intro e
          have : mjOk vs r = true := by unfold mjOk; rw [decide_eq_true_iff]; omega
          rw [hm] at this; cases this
        go_wp2_with fail
        refine HC.out.mono ?_
        rintro e w3 ⟨rfl, hw3⟩
        go_wp2
        exact ⟨⟨k + 1, by omega, by go_num, (all_take HR.out hall.out).trans (by simp [hm]), hwr.trans hw3⟩, by simp [intOf]; omega⟩
      · have hz : (((bkI (mjQ vs) r : Nat) : Int) == 0) = true := by
          have h1 : bkI (mjQ vs) r = 0 := by unfold mjOk at hm; exact decide_eq_true_iff.1 hm
          rw [h1]; rfl
        have HF : Hid (rows.find? (mjOk vs) = some r) := by
          have hlt := lt_of_at HR.out
          refine List.find?_eq_some_iff_getElem.2 ⟨hm, k, hlt, ?_, fun j hj => ?_⟩
          · have := HR.out
            rw [List.getElem?_eq_getElem hlt] at this
            injection this
          · have h1 := List.all_eq_true.1 hall.out rows[j] (by rw [List.mem_take_iff_getElem]; exact ⟨j, by omega, rfl⟩)
            simpa using h1
        go_wp2_with fail
        refine HC.out.mono ?_
        rintro e w3 ⟨rfl, hw3⟩
        go_wp2
        go_ret2
        refine ⟨_, by rw [HB.out, HF.out]; rfl, ?_, hw.trans (hwr.trans hw3)⟩
        rw [HL.out, HF.out]
        exact (hO.ext hw3).base hlow
    · go_wp2
      go_ret2
      have HF : rows.find? (mjOk vs) = none := by
        rw [List.find?_eq_none]
        intro r hr
        have h1 := List.all_eq_true.1 (all_whole (by omega) hall.out) r hr
        simpa using h1
      exact ⟨_, by rw [HB.out, HF]; rfl, by rw [HL.out, HF]; exact OwnI.nil _ _, hw.trans hwr⟩

end Go.Proofs.Ytacmabdeocmheaa
