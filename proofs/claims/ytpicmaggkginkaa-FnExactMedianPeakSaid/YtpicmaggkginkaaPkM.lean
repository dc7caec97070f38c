/- The median of the peaks: both packages. -/
import Derived.Test.YtpicmaggkginkaaPkQ
namespace Go.Proofs.Ytpicmaggkginkaa
open Go.RowKit

set_option maxRecDepth 100000 in
theorem md_at {V : Int} {ps bs : List Int} {j : Nat} {p y s : Int} (hp : ps[j]? = some p) (hy : bs[j]? = some y) :
    mdGo V (ps.drop j) (bs.drop j) s = if 0 < s + p ∧ V ≤ 2 * (s + p) then y else mdGo V (ps.drop (j + 1)) (bs.drop (j + 1)) (s + p) := by
  have h1 : ps.drop j = p :: ps.drop (j + 1) := (List.drop_eq_getElem?_toList_append (l := ps) (i := j)).trans (by rw [hp]; rfl)
  have h2 : bs.drop j = y :: bs.drop (j + 1) := (List.drop_eq_getElem?_toList_append (l := bs) (i := j)).trans (by rw [hy]; rfl)
  rw [h1, h2]; rfl

set_option maxRecDepth 100000 in
set_option maxHeartbeats 2000000 in
theorem md_spec (w : World) (sz : Int) (a a2 : Option Addr) (c c2 : Nat) (vs : List Vt) (ax : List Int) (hR : RdV w a vs) (hR2 : RdI w a2 ax) :
    Calls Try.prog 33 #[.agg #[.int .i64 sz, .slice a vs.length c], .slice a2 ax.length c2] w fun e w' => e = .returned (.int .i64 (mdO sz ax vs)) ∧ Ext w w' := by
  have q0 := new0 w (.int .i64 sz) [.slice a vs.length c] 30
  have q1 := new1 w (.int .i64 sz) (.slice a vs.length c) [] 30
  have hL5 := pks_len sz ax vs
  have HB := hide (fun (j : Nat) (x : Int) (hx : (pksO sz ax vs)[j]? = some x) => pks_bd hx)
  obtain ⟨L, hL⟩ : ∃ L : Nat, L = (pksO sz ax vs).length := ⟨_, rfl⟩
  rw [← hL] at hL5
  go_enter Try.func33, Try.ntmps33
  go_wp2_with fail
  refine (pks_spec _ sz a a2 c c2 vs ax (hR.ext (by repeat (first | exact Ext.refl _ | assumption | refine Ext.alloc ?_ _ | refine Ext.drew ?_ | refine Ext.trans ?_ (by assumption)))) (hR2.ext (by repeat (first | exact Ext.refl _ | assumption | refine Ext.alloc ?_ _ | refine Ext.drew ?_ | refine Ext.trans ?_ (by assumption))))).mono ?_
  rintro e w1 ⟨v, rfl, hv, hw1⟩
  have q0 := Ext.keep (w' := w1) (by repeat (first | exact Ext.refl _ | assumption | refine Ext.alloc ?_ _ | refine Ext.drew ?_ | refine Ext.trans ?_ (by assumption))) q0
  have q1 := Ext.keep (w' := w1) (by repeat (first | exact Ext.refl _ | assumption | refine Ext.alloc ?_ _ | refine Ext.drew ?_ | refine Ext.trans ?_ (by assumption))) q1
  obtain ⟨av, cv, rfl, _, _, hRv, _⟩ := hv.val
  rw [← hL]
  have HL := hide hL
  have hw : Ext w w1 := (by repeat (first | exact Ext.refl _ | assumption | refine Ext.alloc ?_ _ | refine Ext.drew ?_ | refine Ext.trans ?_ (by assumption)))
  clear hv hL hw1
  go_wp2_with fail
  obtain ⟨wb, hwb⟩ : ∃ wb : World, wb = w1 := ⟨_, rfl⟩
  subst hwb
  go_loopw [5, 6, 7, 12] (fun n _ _ i wr => ∃ (j : Nat) (s : Int), j ≤ L ∧ i = .int .i64 j ∧ n = .int .i64 s ∧ 0 ≤ s ∧ s ≤ 24000 * j ∧ Hid (mdO sz ax vs = mdGo (allV vs) ((pksO sz ax vs).drop j) (ax.drop j) s) ∧ Ext wb wr) (fun _ _ _ i _ => L - (intOf i).toNat)
  case atStart => exact ⟨0, 0, Nat.zero_le _, rfl, rfl, by omega, by omega, rfl, Ext.refl _⟩
  case round =>
    obtain ⟨j, s, hj, rfl, rfl, s0, s1, HG, hwr⟩ := hrel
    have hwx := hw.trans hwr
    have r0 := hwr.keep q0
    have r1 := hwr.keep q1
    by_cases hjt : j < L
    · obtain ⟨x, hx⟩ := at_of_lt (xs := pksO sz ax vs) (k := j) (by rw [← HL.out]; exact hjt)
      obtain ⟨hS, x0, x1, y, hy⟩ := HB.out j x hx
      obtain ⟨b, off, rfl, d0⟩ := (hRv.ext hwr).at_ hx
      obtain ⟨b2, off2, rfl, d1⟩ := (hR2.ext hwx).at_ hy
      have hg := HG.out.trans (md_at hx hy)
      obtain ⟨V0, V1⟩ : 0 ≤ allV vs ∧ allV vs ≤ 24000 := sumV_bd' hS
      have HC : Hid (∀ w', Ext wr w' → Calls Try.prog 72 #[.agg #[.int .i64 sz, .slice a vs.length c]] w' fun e w'' => e = .returned (.int .i64 (allV vs)) ∧ Ext w' w'') := fun w' hw' =>
        allV_spec w' sz a c vs (hR.ext (hwx.trans hw')) hS
      have hlax : j < ax.length := (List.getElem?_eq_some_iff.1 hy).1
      clear hx hy hS HG
      generalize allV vs = V at hg V0 V1 HC
      by_cases hp : 0 < s + x
      · by_cases hq : V ≤ 2 * (s + x)
        · have HG2 := hide (hg.trans (if_pos ⟨hp, hq⟩))
          clear hg
          go_wp2_with (go_at_call 72; refine (HC.out _ (by repeat (first | exact Ext.refl _ | assumption | refine Ext.alloc ?_ _ | refine Ext.drew ?_ | refine Ext.trans ?_ (by assumption)))).mono ?_; rintro e w1 ⟨rfl, hw1⟩; have r0 := Ext.keep (w' := w1) (by repeat (first | exact Ext.refl _ | assumption | refine Ext.alloc ?_ _ | refine Ext.drew ?_ | refine Ext.trans ?_ (by assumption))) r0; have r1 := Ext.keep (w' := w1) (by repeat (first | exact Ext.refl _ | assumption | refine Ext.alloc ?_ _ | refine Ext.drew ?_ | refine Ext.trans ?_ (by assumption))) r1; have d1 := Ext.keep (w' := w1) (by repeat (first | exact Ext.refl _ | assumption | refine Ext.alloc ?_ _ | refine Ext.drew ?_ | refine Ext.trans ?_ (by assumption))) d1)
          go_ret
          exact ⟨ret_int HG2.out.symm, hwx.trans (by repeat (first | exact Ext.refl _ | assumption | refine Ext.alloc ?_ _ | refine Ext.drew ?_ | refine Ext.trans ?_ (by assumption)))⟩
        · have HG2 := hide (hg.trans (if_neg (fun h => hq h.2)))
          clear hg
          go_wp2_with (go_at_call 72; refine (HC.out _ (by repeat (first | exact Ext.refl _ | assumption | refine Ext.alloc ?_ _ | refine Ext.drew ?_ | refine Ext.trans ?_ (by assumption)))).mono ?_; rintro e w1 ⟨rfl, hw1⟩; have r0 := Ext.keep (w' := w1) (by repeat (first | exact Ext.refl _ | assumption | refine Ext.alloc ?_ _ | refine Ext.drew ?_ | refine Ext.trans ?_ (by assumption))) r0; have r1 := Ext.keep (w' := w1) (by repeat (first | exact Ext.refl _ | assumption | refine Ext.alloc ?_ _ | refine Ext.drew ?_ | refine Ext.trans ?_ (by assumption))) r1; have d1 := Ext.keep (w' := w1) (by repeat (first | exact Ext.refl _ | assumption | refine Ext.alloc ?_ _ | refine Ext.drew ?_ | refine Ext.trans ?_ (by assumption))) d1)
          exact ⟨⟨j + 1, s + x, by omega, by go_num, rfl, by omega, by omega, HG2, (by repeat (first | exact Ext.refl _ | assumption | refine Ext.alloc ?_ _ | refine Ext.drew ?_ | refine Ext.trans ?_ (by assumption)))⟩, by simp [intOf]; omega⟩
      · have HG2 := hide (hg.trans (if_neg (fun h => hp h.1)))
        clear hg
        go_wp2
        exact ⟨⟨j + 1, s + x, by omega, by go_num, rfl, by omega, by omega, HG2, (by repeat (first | exact Ext.refl _ | assumption | refine Ext.alloc ?_ _ | refine Ext.drew ?_ | refine Ext.trans ?_ (by assumption)))⟩, by simp [intOf]; omega⟩
    · have hd : (pksO sz ax vs).drop j = [] := List.drop_eq_nil_of_le (by have := HL.out; omega)
      have HG2 : Hid (mdO sz ax vs = -1) := HG.out.trans (by rw [hd]; exact md_nil _ _ _)
      clear hd HG
      go_wp2
      go_ret
      exact ⟨ret_int HG2.out.symm, hwx⟩

set_option maxRecDepth 100000 in
set_option maxHeartbeats 2000000 in
theorem md_impl (w : World) (sz : Int) (a a2 : Option Addr) (c c2 : Nat) (vs : List Vt) (ax : List Int) (hR : RdV w a vs) (hR2 : RdI w a2 ax) (hc2 : ax.length ≤ c2) :
    Calls Try.prog 35 #[.agg #[.int .i64 sz, .slice a vs.length c], .slice a2 ax.length c2] w fun e w' => e = .returned (.int .i64 (mdO sz ax vs)) ∧ Ext w w' := by
  have q0 := new0 w (.int .i64 sz) [.slice a vs.length c] 30
  have q1 := new1 w (.int .i64 sz) (.slice a vs.length c) [] 30
  have HE := hide (fun (w1 : World) (hw1 : Ext w w1) => pkp_impl w1 sz a a2 c c2 vs ax (hR.ext hw1) (hR2.ext hw1) hc2)
  cases hb : pkpB sz ax vs
  · rw [hb] at HE
    have HM : Hid (mdO sz ax vs = -1) := hide (by simp [mdO, pksO, hb, md_nil])
    go_enter Try.func35, Try.ntmps35
    go_wp2_with (go_at_call 73; refine (HE.out _ (by repeat (first | exact Ext.refl _ | assumption | refine Ext.alloc ?_ _ | refine Ext.drew ?_ | refine Ext.trans ?_ (by assumption)))).mono ?_; rintro e w1 ⟨rfl, hw1⟩; have q0 := Ext.keep (w' := w1) (by repeat (first | exact Ext.refl _ | assumption | refine Ext.alloc ?_ _ | refine Ext.drew ?_ | refine Ext.trans ?_ (by assumption))) q0; have q1 := Ext.keep (w' := w1) (by repeat (first | exact Ext.refl _ | assumption | refine Ext.alloc ?_ _ | refine Ext.drew ?_ | refine Ext.trans ?_ (by assumption))) q1)
    go_ret
    exact ⟨ret_int HM.out.symm, (by repeat (first | exact Ext.refl _ | assumption | refine Ext.alloc ?_ _ | refine Ext.drew ?_ | refine Ext.trans ?_ (by assumption)))⟩
  rw [hb] at HE
  by_cases hv0 : vs.length = 0
  · have hvn : vs = [] := List.length_eq_zero_iff.1 hv0
    have HM : Hid (mdO sz ax vs = -1) := by
      unfold mdO
      have hz : ∀ p ∈ pksO sz ax vs, p = 0 := fun p hp => by
        rw [hvn] at hp hb
        simp only [pksO, hb, if_true, List.mem_map] at hp
        obtain ⟨y, _, rfl⟩ := hp
        rfl
      exact md_zero _ _ _ hz
    subst hvn
    clear hv0 hb
    rw [List.length_nil] at q0 q1 ⊢
    simp only [List.length_nil] at HE
    go_enter Try.func35, Try.ntmps35
    go_wp2_with (go_at_call 73; refine (HE.out _ (by repeat (first | exact Ext.refl _ | assumption | refine Ext.alloc ?_ _ | refine Ext.drew ?_ | refine Ext.trans ?_ (by assumption)))).mono ?_; rintro e w1 ⟨rfl, hw1⟩; have q0 := Ext.keep (w' := w1) (by repeat (first | exact Ext.refl _ | assumption | refine Ext.alloc ?_ _ | refine Ext.drew ?_ | refine Ext.trans ?_ (by assumption))) q0; have q1 := Ext.keep (w' := w1) (by repeat (first | exact Ext.refl _ | assumption | refine Ext.alloc ?_ _ | refine Ext.drew ?_ | refine Ext.trans ?_ (by assumption))) q1)
    go_ret
    exact ⟨ret_int HM.out.symm, (by repeat (first | exact Ext.refl _ | assumption | refine Ext.alloc ?_ _ | refine Ext.drew ?_ | refine Ext.trans ?_ (by assumption)))⟩
  have hpo : profOk sz vs = true := by
    simp only [pkpB, Bool.and_eq_true] at hb
    exact hb.1
  have HS := hide (prof_small hpo)
  have hV1 := allV_pos' HS.out (fun e => hv0 (by rw [e]; rfl))
  have hV2 : allV vs ≤ 24000 := (sumV_bd' HS.out).2
  have hL5 := pks_len sz ax vs
  have HB := hide (fun (j : Nat) (x : Int) (hx : (pksO sz ax vs)[j]? = some x) => pks_bd hx)
  have HMD : Hid (mdO sz ax vs = mdGo (allV vs) (pksO sz ax vs) ax 0) := hide rfl
  have HC : Hid (∀ w', Ext w w' → Calls Try.prog 75 #[.agg #[.int .i64 sz, .slice a vs.length c]] w' fun e w'' => e = .returned (.int .i64 (allV vs)) ∧ Ext w' w'') := fun w' hw' =>
    (count_impl w' sz a c vs (hR.ext hw')).mono fun _ _ ⟨h1, h2⟩ => ⟨by rw [h1, if_pos hpo], h2⟩
  obtain ⟨L, hL⟩ : ∃ L : Nat, L = (pksO sz ax vs).length := ⟨_, rfl⟩
  rw [← hL] at hL5
  generalize allV vs = V at hV1 hV2 HMD HC
  go_enter Try.func35, Try.ntmps35
  go_wp2_with (go_at_call 73; refine (HE.out _ (by repeat (first | exact Ext.refl _ | assumption | refine Ext.alloc ?_ _ | refine Ext.drew ?_ | refine Ext.trans ?_ (by assumption)))).mono ?_; rintro e w1 ⟨rfl, hw1⟩; have q0 := Ext.keep (w' := w1) (by repeat (first | exact Ext.refl _ | assumption | refine Ext.alloc ?_ _ | refine Ext.drew ?_ | refine Ext.trans ?_ (by assumption))) q0; have q1 := Ext.keep (w' := w1) (by repeat (first | exact Ext.refl _ | assumption | refine Ext.alloc ?_ _ | refine Ext.drew ?_ | refine Ext.trans ?_ (by assumption))) q1)
  refine (pks_impl _ sz a a2 c c2 vs ax (hR.ext (by repeat (first | exact Ext.refl _ | assumption | refine Ext.alloc ?_ _ | refine Ext.drew ?_ | refine Ext.trans ?_ (by assumption)))) (hR2.ext (by repeat (first | exact Ext.refl _ | assumption | refine Ext.alloc ?_ _ | refine Ext.drew ?_ | refine Ext.trans ?_ (by assumption)))) hc2).mono ?_
  rintro e w2 ⟨v, rfl, hv, hw2⟩
  have q0 := Ext.keep (w' := w2) (by repeat (first | exact Ext.refl _ | assumption | refine Ext.alloc ?_ _ | refine Ext.drew ?_ | refine Ext.trans ?_ (by assumption))) q0
  have q1 := Ext.keep (w' := w2) (by repeat (first | exact Ext.refl _ | assumption | refine Ext.alloc ?_ _ | refine Ext.drew ?_ | refine Ext.trans ?_ (by assumption))) q1
  obtain ⟨av, cv, rfl, _, _, hRv, _⟩ := hv.val
  rw [← hL]
  have HL := hide hL
  have hw : Ext w w2 := (by repeat (first | exact Ext.refl _ | assumption | refine Ext.alloc ?_ _ | refine Ext.drew ?_ | refine Ext.trans ?_ (by assumption)))
  clear hv hL hw1 hw2
  go_wp2_with fail
  obtain ⟨wb, hwb⟩ : ∃ wb : World, wb = w2 := ⟨_, rfl⟩
  subst hwb
  go_loopw [5, 6, 7, 22] (fun n _ _ i wr => ∃ (j : Nat) (s : Int), j ≤ L ∧ i = .int .i64 j ∧ n = .int .i64 s ∧ 0 ≤ s ∧ s ≤ 24000 * j ∧ Hid (mdO sz ax vs = mdGo V ((pksO sz ax vs).drop j) (ax.drop j) s) ∧ Ext wb wr) (fun _ _ _ i _ => L - (intOf i).toNat)
  case atStart => exact ⟨0, 0, Nat.zero_le _, rfl, rfl, by omega, by omega, HMD, Ext.refl _⟩
  case round =>
    obtain ⟨j, s, hj, rfl, rfl, s0, s1, HG, hwr⟩ := hrel
    have hwx := hw.trans hwr
    have r0 := hwr.keep q0
    have r1 := hwr.keep q1
    by_cases hjt : j < L
    · obtain ⟨x, hx⟩ := at_of_lt (xs := pksO sz ax vs) (k := j) (by rw [← HL.out]; exact hjt)
      obtain ⟨_, x0, x1, y, hy⟩ := HB.out j x hx
      obtain ⟨b, off, rfl, d0⟩ := (hRv.ext hwr).at_ hx
      obtain ⟨b2, off2, rfl, d1⟩ := (hR2.ext hwx).at_ hy
      have hg := HG.out.trans (md_at hx hy)
      have hlax : j < ax.length := (List.getElem?_eq_some_iff.1 hy).1
      clear hx hy HG
      by_cases hq : V ≤ 2 * (s + x)
      · have HG2 := hide (hg.trans (if_pos ⟨by omega, hq⟩))
        clear hg
        go_wp2_with (go_at_call 75; refine (HC.out _ (by repeat (first | exact Ext.refl _ | assumption | refine Ext.alloc ?_ _ | refine Ext.drew ?_ | refine Ext.trans ?_ (by assumption)))).mono ?_; rintro e w1 ⟨rfl, hw1⟩; have r0 := Ext.keep (w' := w1) (by repeat (first | exact Ext.refl _ | assumption | refine Ext.alloc ?_ _ | refine Ext.drew ?_ | refine Ext.trans ?_ (by assumption))) r0; have r1 := Ext.keep (w' := w1) (by repeat (first | exact Ext.refl _ | assumption | refine Ext.alloc ?_ _ | refine Ext.drew ?_ | refine Ext.trans ?_ (by assumption))) r1; have d1 := Ext.keep (w' := w1) (by repeat (first | exact Ext.refl _ | assumption | refine Ext.alloc ?_ _ | refine Ext.drew ?_ | refine Ext.trans ?_ (by assumption))) d1)
        go_ret
        exact ⟨ret_int HG2.out.symm, hwx.trans (by repeat (first | exact Ext.refl _ | assumption | refine Ext.alloc ?_ _ | refine Ext.drew ?_ | refine Ext.trans ?_ (by assumption)))⟩
      · have HG2 := hide (hg.trans (if_neg (fun h => hq h.2)))
        clear hg
        go_wp2_with (go_at_call 75; refine (HC.out _ (by repeat (first | exact Ext.refl _ | assumption | refine Ext.alloc ?_ _ | refine Ext.drew ?_ | refine Ext.trans ?_ (by assumption)))).mono ?_; rintro e w1 ⟨rfl, hw1⟩; have r0 := Ext.keep (w' := w1) (by repeat (first | exact Ext.refl _ | assumption | refine Ext.alloc ?_ _ | refine Ext.drew ?_ | refine Ext.trans ?_ (by assumption))) r0; have r1 := Ext.keep (w' := w1) (by repeat (first | exact Ext.refl _ | assumption | refine Ext.alloc ?_ _ | refine Ext.drew ?_ | refine Ext.trans ?_ (by assumption))) r1; have d1 := Ext.keep (w' := w1) (by repeat (first | exact Ext.refl _ | assumption | refine Ext.alloc ?_ _ | refine Ext.drew ?_ | refine Ext.trans ?_ (by assumption))) d1)
        exact ⟨⟨j + 1, s + x, by omega, by go_num, rfl, by omega, by omega, HG2, (by repeat (first | exact Ext.refl _ | assumption | refine Ext.alloc ?_ _ | refine Ext.drew ?_ | refine Ext.trans ?_ (by assumption)))⟩, by simp [intOf]; omega⟩
    · have hd : (pksO sz ax vs).drop j = [] := List.drop_eq_nil_of_le (by have := HL.out; omega)
      have HG2 : Hid (mdO sz ax vs = -1) := HG.out.trans (by rw [hd]; exact md_nil _ _ _)
      clear hd HG
      go_wp2
      go_ret
      exact ⟨ret_int HG2.out.symm, hwx⟩

end Go.Proofs.Ytpicmaggkginkaa
