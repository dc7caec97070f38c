/- The peaks of a single-peaked profile, and the median of them. -/
import Derived.Test.YtpicmaggkginkaaPkP
namespace Go.Proofs.Ytpicmaggkginkaa
open Go.RowKit

def pksF (vs : List Vt) (x : Int) : Int := fstV vs x.toNat
def pksO (sz : Int) (ax : List Int) (vs : List Vt) : List Int := if pkpB sz ax vs then ax.map (pksF vs) else []
set_option maxRecDepth 100000 in
theorem take_mapS {ax : List Int} {f : Int → Int} {j : Nat} {x : Int} (hx : ax[j]? = some x) : (ax.take (j + 1)).map f = (ax.take j).map f ++ [f x] := by
  rw [take_at hx]; simp
set_option maxRecDepth 100000 in
theorem allV_pos' {n : Int} : ∀ {vs : List Vt}, SmallV n vs → vs ≠ [] → 1 ≤ allV vs
  | [], _, h => absurd rfl h
  | x :: vs, hS, _ => by
    have h1 := (hS.2 x (by simp)).2.1
    have ht : SmallV n vs := ⟨by have := hS.1; simp at this; omega, fun y hy => hS.2 y (by simp [hy])⟩
    have h2 : 0 ≤ sumV (fun _ => true) vs ∧ _ := sumV_bd' ht
    have h3 : allV (x :: vs) = x.2 + sumV (fun _ => true) vs := by unfold allV sumV; simp
    omega
def mdGo (V : Int) : List Int → List Int → Int → Int
  | p :: ps, a :: bs, s => if 0 < s + p ∧ V ≤ 2 * (s + p) then a else mdGo V ps bs (s + p)
  | _, _, _ => -1
def mdO (sz : Int) (ax : List Int) (vs : List Vt) : Int := mdGo (allV vs) (pksO sz ax vs) ax 0
set_option maxRecDepth 100000 in
theorem md_nil (V : Int) (bs : List Int) (s : Int) : mdGo V [] bs s = -1 := by simp [mdGo]
set_option maxRecDepth 100000 in
theorem md_zero (V : Int) : ∀ (ps bs : List Int), (∀ p ∈ ps, p = 0) → mdGo V ps bs 0 = -1
  | [], _, _ => md_nil _ _ _
  | p :: ps, [], _ => by simp [mdGo]
  | p :: ps, a :: bs, h => by
    have hp := h p (by simp)
    subst hp
    unfold mdGo
    rw [if_neg (by omega)]
    exact md_zero V ps bs (fun q hq => h q (by simp [hq]))
set_option maxRecDepth 100000 in
theorem pks_len (sz : Int) (ax : List Int) (vs : List Vt) : (pksO sz ax vs).length ≤ 5 := by
  unfold pksO
  cases hb : pkpB sz ax vs
  · simp
  · simp only [pkpB, Bool.and_eq_true] at hb
    have := (rk_len hb.2.1).2
    simpa using this
set_option maxRecDepth 100000 in
theorem pks_bd {sz : Int} {ax : List Int} {vs : List Vt} {j : Nat} {x : Int} (hx : (pksO sz ax vs)[j]? = some x) : SmallV sz vs ∧ 0 ≤ x ∧ x ≤ 24000 ∧ ∃ y, ax[j]? = some y := by
  cases hb : pkpB sz ax vs
  · simp [pksO, hb] at hx
  · simp only [pksO, hb, if_true, List.getElem?_map, Option.map_eq_some_iff] at hx
    simp only [pkpB, Bool.and_eq_true] at hb
    obtain ⟨y, hy, rfl⟩ := hx
    exact ⟨prof_small hb.1, (fstV_bd (prof_small hb.1) _).1, (fstV_bd (prof_small hb.1) _).2, y, hy⟩

set_option maxRecDepth 100000 in
set_option maxHeartbeats 2000000 in
theorem pks_spec (w : World) (sz : Int) (a a2 : Option Addr) (c c2 : Nat) (vs : List Vt) (ax : List Int) (hR : RdV w a vs) (hR2 : RdI w a2 ax) :
    Calls Try.prog 71 #[.agg #[.int .i64 sz, .slice a vs.length c], .slice a2 ax.length c2] w fun e w' => ∃ v, e = .returned v ∧ OwnI w' w.heap.size v (pksO sz ax vs) ∧ Ext w w' := by
  have q0 := new0 w (.int .i64 sz) [.slice a vs.length c] 30
  have q1 := new1 w (.int .i64 sz) (.slice a vs.length c) [] 30
  have HE := hide (fun (w1 : World) (hw1 : Ext w w1) => pkp_spec w1 sz a a2 c c2 vs ax (hR.ext hw1) (hR2.ext hw1))
  cases hb : pkpB sz ax vs
  · rw [hb] at HE
    go_enter Try.func71, Try.ntmps71
    go_wp2_with (go_at_call 120; refine (HE.out _ (by repeat (first | exact Ext.refl _ | assumption | refine Ext.alloc ?_ _ | refine Ext.drew ?_ | refine Ext.trans ?_ (by assumption)))).mono ?_; rintro e w1 ⟨rfl, hw1⟩; have q0 := Ext.keep (w' := w1) (by repeat (first | exact Ext.refl _ | assumption | refine Ext.alloc ?_ _ | refine Ext.drew ?_ | refine Ext.trans ?_ (by assumption))) q0; have q1 := Ext.keep (w' := w1) (by repeat (first | exact Ext.refl _ | assumption | refine Ext.alloc ?_ _ | refine Ext.drew ?_ | refine Ext.trans ?_ (by assumption))) q1)
    go_ret
    exact ⟨_, rfl, by simp [pksO, hb]; exact OwnI.nil _ _, (by repeat (first | exact Ext.refl _ | assumption | refine Ext.alloc ?_ _ | refine Ext.drew ?_ | refine Ext.trans ?_ (by assumption)))⟩
  rw [hb] at HE
  have hok : pksO sz ax vs = ax.map (pksF vs) := by simp [pksO, hb]
  have HOK := hide hok
  simp only [pkpB, Bool.and_eq_true] at hb
  obtain ⟨h0, h1, _⟩ := hb
  obtain ⟨n, rfl, n1, n2⟩ := prof_nat h0
  have HM := hide (fun x (hx : x ∈ ax) => rk_mem h1 hx)
  have hal := (rk_len h1).2
  clear hok h1
  go_enter Try.func71, Try.ntmps71
  go_wp2_with (go_at_call 120; refine (HE.out _ (by repeat (first | exact Ext.refl _ | assumption | refine Ext.alloc ?_ _ | refine Ext.drew ?_ | refine Ext.trans ?_ (by assumption)))).mono ?_; rintro e w1 ⟨rfl, hw1⟩; have q0 := Ext.keep (w' := w1) (by repeat (first | exact Ext.refl _ | assumption | refine Ext.alloc ?_ _ | refine Ext.drew ?_ | refine Ext.trans ?_ (by assumption))) q0; have q1 := Ext.keep (w' := w1) (by repeat (first | exact Ext.refl _ | assumption | refine Ext.alloc ?_ _ | refine Ext.drew ?_ | refine Ext.trans ?_ (by assumption))) q1)
  refine (fst_spec _ n a c vs (hR.ext (by repeat (first | exact Ext.refl _ | assumption | refine Ext.alloc ?_ _ | refine Ext.drew ?_ | refine Ext.trans ?_ (by assumption)))) h0).mono ?_
  rintro e w2 ⟨v, rfl, hv, hw2⟩
  obtain ⟨av, cv, rfl, _, _, hRv, _⟩ := hv.val
  rw [rowL_len]
  have hw : Ext w w2 := (by repeat (first | exact Ext.refl _ | assumption | refine Ext.alloc ?_ _ | refine Ext.drew ?_ | refine Ext.trans ?_ (by assumption)))
  have hs := hw.size
  clear hv hw2 hw1 q0 q1 HE
  go_wp2_with fail
  have hO := OwnI.made0 w2
  have hwo : Ext w2 (w2.alloc (.cells #[] 3)) := (by repeat (first | exact Ext.refl _ | assumption | refine Ext.alloc ?_ _ | refine Ext.drew ?_ | refine Ext.trans ?_ (by assumption)))
  generalize w2.alloc (.cells #[] 3) = W0 at hO hwo ⊢
  go_loopw [6, 8, 18] (fun v _ i wr => ∃ j : Nat, j ≤ ax.length ∧ i = .int .i64 j ∧ OwnI wr w2.heap.size v ((ax.take j).map (pksF vs)) ∧ Ext w2 wr) (fun _ _ i _ => ax.length - (intOf i).toNat)
  case atStart => exact ⟨0, Nat.zero_le _, rfl, hO, hwo⟩
  case round =>
    clear hO hwo
    obtain ⟨j, hj, rfl, hown, hwr⟩ := hrel
    have hwx := hw.trans hwr
    by_cases hjt : j < ax.length
    · obtain ⟨x, hx⟩ := at_of_lt hjt
      obtain ⟨b, off, rfl, d0⟩ := (hR2.ext hwx).at_ hx
      obtain ⟨x0, x1⟩ := HM.out x (List.mem_of_getElem? hx)
      obtain ⟨k, rfl⟩ := Int.eq_ofNat_of_zero_le x0
      have hk : k < n := by omega
      obtain ⟨b2, off2, rfl, d1⟩ := (hRv.ext hwr).at_ (rowL_at (f := fstV vs) hk)
      have HT := hide (take_mapS (f := pksF vs) hx)
      have hll : ((ax.take j).map (pksF vs)).length ≤ 2000000 := by rw [List.length_map, List.length_take]; omega
      clear hx
      go_wp2_with (at_builtin; refine wpList_appI w2 _ rfl _ _ rfl _ ((ax.take j).map (pksF vs)) _ rfl (hown.ext (by repeat (first | exact Ext.refl _ | assumption | refine Ext.alloc ?_ _ | refine Ext.drew ?_ | refine Ext.trans ?_ (by assumption)))) (by repeat (first | exact Ext.refl _ | assumption | refine Ext.alloc ?_ _ | refine Ext.drew ?_ | refine Ext.trans ?_ (by assumption))) rfl hll ?_; intro v' w3 hown3 hw3)
      exact ⟨⟨j + 1, by omega, by go_num, by rw [HT.out]; exact hown3, (by repeat (first | exact Ext.refl _ | assumption | refine Ext.alloc ?_ _ | refine Ext.drew ?_ | refine Ext.trans ?_ (by assumption)))⟩, by simp [intOf]; omega⟩
    · have hja : (ax.take j).map (pksF vs) = pksO n ax vs := by rw [HOK.out, List.take_of_length_le (by omega)]
      rw [hja] at hown
      clear hja
      go_wp2
      go_ret
      exact ⟨_, rfl, hown.base hs, hwx⟩

set_option maxRecDepth 100000 in
set_option maxHeartbeats 2000000 in
theorem pks_impl (w : World) (sz : Int) (a a2 : Option Addr) (c c2 : Nat) (vs : List Vt) (ax : List Int) (hR : RdV w a vs) (hR2 : RdI w a2 ax) (hc2 : ax.length ≤ c2) :
    Calls Try.prog 74 #[.agg #[.int .i64 sz, .slice a vs.length c], .slice a2 ax.length c2] w fun e w' => ∃ v, e = .returned v ∧ OwnI w' w.heap.size v (pksO sz ax vs) ∧ Ext w w' := by
  have q0 := new0 w (.int .i64 sz) [.slice a vs.length c] 30
  have q1 := new1 w (.int .i64 sz) (.slice a vs.length c) [] 30
  have HE := hide (fun (w1 : World) (hw1 : Ext w w1) => pkp_impl w1 sz a a2 c c2 vs ax (hR.ext hw1) (hR2.ext hw1) hc2)
  cases hb : pkpB sz ax vs
  · rw [hb] at HE
    go_enter Try.func74, Try.ntmps74
    go_wp2_with (go_at_call 73; refine (HE.out _ (by repeat (first | exact Ext.refl _ | assumption | refine Ext.alloc ?_ _ | refine Ext.drew ?_ | refine Ext.trans ?_ (by assumption)))).mono ?_; rintro e w1 ⟨rfl, hw1⟩; have q0 := Ext.keep (w' := w1) (by repeat (first | exact Ext.refl _ | assumption | refine Ext.alloc ?_ _ | refine Ext.drew ?_ | refine Ext.trans ?_ (by assumption))) q0; have q1 := Ext.keep (w' := w1) (by repeat (first | exact Ext.refl _ | assumption | refine Ext.alloc ?_ _ | refine Ext.drew ?_ | refine Ext.trans ?_ (by assumption))) q1)
    go_ret
    exact ⟨_, rfl, by simp [pksO, hb]; exact OwnI.nil _ _, (by repeat (first | exact Ext.refl _ | assumption | refine Ext.alloc ?_ _ | refine Ext.drew ?_ | refine Ext.trans ?_ (by assumption)))⟩
  rw [hb] at HE
  have hok : pksO sz ax vs = ax.map (pksF vs) := by simp [pksO, hb]
  have HOK := hide hok
  simp only [pkpB, Bool.and_eq_true] at hb
  obtain ⟨h0, h1, _⟩ := hb
  obtain ⟨n, rfl, n1, n2⟩ := prof_nat h0
  have HM := hide (fun x (hx : x ∈ ax) => rk_mem h1 hx)
  have hal := (rk_len h1).2
  have hfo : fstO n vs = rowL n (fstV vs) := by simp [fstO, h0]
  have HF := hide hfo
  clear hok h1 hfo
  go_enter Try.func74, Try.ntmps74
  go_wp2_with (go_at_call 73; refine (HE.out _ (by repeat (first | exact Ext.refl _ | assumption | refine Ext.alloc ?_ _ | refine Ext.drew ?_ | refine Ext.trans ?_ (by assumption)))).mono ?_; rintro e w1 ⟨rfl, hw1⟩; have q0 := Ext.keep (w' := w1) (by repeat (first | exact Ext.refl _ | assumption | refine Ext.alloc ?_ _ | refine Ext.drew ?_ | refine Ext.trans ?_ (by assumption))) q0; have q1 := Ext.keep (w' := w1) (by repeat (first | exact Ext.refl _ | assumption | refine Ext.alloc ?_ _ | refine Ext.drew ?_ | refine Ext.trans ?_ (by assumption))) q1)
  obtain ⟨wb, hwb⟩ : ∃ wb : World, wb = w1 := ⟨_, rfl⟩
  subst hwb
  have hw : Ext w wb := (by repeat (first | exact Ext.refl _ | assumption | refine Ext.alloc ?_ _ | refine Ext.drew ?_ | refine Ext.trans ?_ (by assumption)))
  have hs := hw.size
  clear hw1 HE
  go_loopw [5, 7, 14] (fun v _ i wr => ∃ j : Nat, j ≤ ax.length ∧ i = .int .i64 j ∧ OwnI wr wb.heap.size v ((ax.take j).map (pksF vs)) ∧ Ext wb wr) (fun _ _ i _ => ax.length - (intOf i).toNat)
  case atStart => exact ⟨0, Nat.zero_le _, rfl, OwnI.nil _ _, Ext.refl _⟩
  case round =>
    obtain ⟨j, hj, rfl, hown, hwr⟩ := hrel
    have hwx := hw.trans hwr
    have r0 := hwr.keep q0
    have r1 := hwr.keep q1
    by_cases hjt : j < ax.length
    · obtain ⟨x, hx⟩ := at_of_lt hjt
      obtain ⟨b, off, rfl, d0⟩ := (hR2.ext hwx).at_ hx
      obtain ⟨x0, x1⟩ := HM.out x (List.mem_of_getElem? hx)
      obtain ⟨k, rfl⟩ := Int.eq_ofNat_of_zero_le x0
      have hk : k < n := by omega
      have HT := hide (take_mapS (f := pksF vs) hx)
      have hll : ((ax.take j).map (pksF vs)).length ≤ 2000000 := by rw [List.length_map, List.length_take]; omega
      clear hx
      go_wp2_with fail
      refine (fst_impl _ n a c vs (hR.ext (by repeat (first | exact Ext.refl _ | assumption | refine Ext.alloc ?_ _ | refine Ext.drew ?_ | refine Ext.trans ?_ (by assumption))))).mono ?_
      rintro e w2 ⟨v, rfl, hv, hw2⟩
      rw [HF.out] at hv
      obtain ⟨av, cv, rfl, _, hRv, _⟩ := hv.fr
      obtain ⟨b2, off2, rfl, d1⟩ := hRv.at_ (rowL_at (f := fstV vs) hk)
      rw [rowL_len]
      have hown := hown.ext hw2
      clear hv
      go_wp2_with (at_builtin; refine wpList_appI wb _ rfl _ _ rfl _ ((ax.take j).map (pksF vs)) _ rfl (hown.ext (by repeat (first | exact Ext.refl _ | assumption | refine Ext.alloc ?_ _ | refine Ext.drew ?_ | refine Ext.trans ?_ (by assumption)))) (by repeat (first | exact Ext.refl _ | assumption | refine Ext.alloc ?_ _ | refine Ext.drew ?_ | refine Ext.trans ?_ (by assumption))) rfl hll ?_; intro v' w3 hown3 hw3)
      exact ⟨⟨j + 1, by omega, by go_num, by rw [HT.out]; exact hown3, (by repeat (first | exact Ext.refl _ | assumption | refine Ext.alloc ?_ _ | refine Ext.drew ?_ | refine Ext.trans ?_ (by assumption)))⟩, by simp [intOf]; omega⟩
    · have hja : (ax.take j).map (pksF vs) = pksO n ax vs := by rw [HOK.out, List.take_of_length_le (by omega)]
      rw [hja] at hown
      clear hja
      go_wp2
      go_ret
      exact ⟨_, rfl, hown.base hs, hwx⟩

end Go.Proofs.Ytpicmaggkginkaa
