/- The ranking in which each candidate beats all behind it, of the spec. -/
import Derived.Test.YtagepfgncbgncaaMjI
namespace Go.Proofs.Ytagepfgncbgncaa
open Go.RowKit

def mjG (n : Nat) (vs : List Vt) (i : Nat) : Int := placeI (upsL n vs) ((n : Int) - 1 - i)
set_option maxRecDepth 100000 in
theorem mj_none {n : Nat} {vs : List Vt} (h0 : profOk n vs = true) (n1 : 1 ≤ n) (n2 : n ≤ 5) (h : ¬ ((∀ i : Nat, i < n → 0 ≤ placeI (upsL n vs) ((n : Int) - 1 - i)) ∧ mjOk vs (mjS n vs) = true)) : mjB n vs = false ∧ mjL n vs = [] := by
  have he := mj_eq (vs := vs) n1 n2
  rw [if_neg h] at he
  constructor
  · simp [mjB, h0, he]
  · simp [mjL, h0, he]
set_option maxRecDepth 100000 in
theorem mj_some {n : Nat} {vs : List Vt} (h0 : profOk n vs = true) (n1 : 1 ≤ n) (n2 : n ≤ 5) (h : ∀ i : Nat, i < n → 0 ≤ placeI (upsL n vs) ((n : Int) - 1 - i)) (h2 : mjOk vs (mjS n vs) = true) : mjB n vs = true ∧ mjL n vs = mjS n vs := by
  have he := mj_eq (vs := vs) n1 n2
  rw [if_pos ⟨h, h2⟩] at he
  constructor
  · simp [mjB, h0, he]
  · simp [mjL, h0, he]

set_option maxRecDepth 100000 in
set_option maxHeartbeats 4000000 in
theorem mj_spec (w : World) (sz : Int) (a : Option Addr) (c : Nat) (vs : List Vt) (hR : RdV w a vs) :
    Calls Try.prog 24 #[.agg #[.int .i64 sz, .slice a vs.length c]] w fun e w' => ∃ v, e = .returned (.tuple #[v, .bool (mjB sz vs)]) ∧ OwnI w' w.heap.size v (mjL sz vs) ∧ Ext w w' := by
  have q0 := new0 w (.int .i64 sz) [.slice a vs.length c] 43
  have q1 := new1 w (.int .i64 sz) (.slice a vs.length c) [] 43
  cases h0 : profOk sz vs
  · go_enter Try.func24, Try.ntmps24
    go_wp2_with (go_at_call 64; refine (prof_spec _ _ _ _ _ (hR.ext (by repeat (first | exact Ext.refl _ | assumption | refine Ext.alloc ?_ _ | refine Ext.drew ?_ | refine Ext.trans ?_ (by assumption))))).mono ?_; rintro e w1 ⟨rfl, hw1⟩; have q0 := Ext.keep (w' := w1) (by repeat (first | exact Ext.refl _ | assumption | refine Ext.alloc ?_ _ | refine Ext.drew ?_ | refine Ext.trans ?_ (by assumption))) q0; have q1 := Ext.keep (w' := w1) (by repeat (first | exact Ext.refl _ | assumption | refine Ext.alloc ?_ _ | refine Ext.drew ?_ | refine Ext.trans ?_ (by assumption))) q1)
    go_ret2
    exact ⟨.slice none 0 0, by simp [mjB, h0], by simp [mjL, h0]; exact OwnI.nil _ _, (by repeat (first | exact Ext.refl _ | assumption | refine Ext.alloc ?_ _ | refine Ext.drew ?_ | refine Ext.trans ?_ (by assumption)))⟩
  obtain ⟨n, rfl, n1, n2⟩ := prof_nat h0
  have HS := hide (prof_small h0)
  go_enter Try.func24, Try.ntmps24
  go_wp2_with (go_at_call 64; refine (prof_spec _ _ _ _ _ (hR.ext (by repeat (first | exact Ext.refl _ | assumption | refine Ext.alloc ?_ _ | refine Ext.drew ?_ | refine Ext.trans ?_ (by assumption))))).mono ?_; rintro e w1 ⟨rfl, hw1⟩; have q0 := Ext.keep (w' := w1) (by repeat (first | exact Ext.refl _ | assumption | refine Ext.alloc ?_ _ | refine Ext.drew ?_ | refine Ext.trans ?_ (by assumption))) q0; have q1 := Ext.keep (w' := w1) (by repeat (first | exact Ext.refl _ | assumption | refine Ext.alloc ?_ _ | refine Ext.drew ?_ | refine Ext.trans ?_ (by assumption))) q1)
  refine (sums_spec _ n a c vs (hR.ext (by repeat (first | exact Ext.refl _ | assumption | refine Ext.alloc ?_ _ | refine Ext.drew ?_ | refine Ext.trans ?_ (by assumption)))) HS.out n2).mono ?_
  rintro e w2 ⟨v1, v2, rfl, hv1, _, hw2⟩
  have hw : Ext w w2 := (by repeat (first | exact Ext.refl _ | assumption | refine Ext.alloc ?_ _ | refine Ext.drew ?_ | refine Ext.trans ?_ (by assumption)))
  have q0 := hw2.keep q0
  have q1 := hw2.keep q1
  have hR2 := hR.ext hw
  obtain ⟨av, cv, rfl, _, hRs, hju⟩ := hv1.fr
  have hul : (upsL n vs).length = n := rowL_len _ _
  rw [hul]
  have HUL := hide hul
  clear hju hv1 hw1 hw2 hul
  obtain ⟨wb, hwb⟩ : ∃ wb : World, wb = w2 := ⟨_, rfl⟩
  subst hwb
  have hO := OwnI.made0 wb
  have hE := Ext.new wb (.cells #[] 3)
  have y0 : wrap64 ((n : Int) - 1) = (n : Int) - 1 := IntWalk.wrap64_in _ (by omega)
  go_wp2_with fail
  generalize wb.alloc (.cells #[] 3) = W0 at hO hE ⊢
  go_loopw [6, 7, 8] (fun v i _ wr => ∃ j : Nat, j ≤ n ∧ i = .int .i64 ((n : Int) - 1 - j) ∧ OwnI wr wb.heap.size v (rowL j (mjG n vs)) ∧ Hid (∀ i : Nat, i < j → 0 ≤ mjG n vs i) ∧ Ext wb wr) (fun _ i _ _ => (intOf i + 1).toNat)
  case atStart => exact ⟨0, Nat.zero_le _, by simp, hO, fun i hi => by omega, hE⟩
  case round =>
    clear hO hE
    obtain ⟨j, hj, rfl, hown, hpos, hwr⟩ := hrel
    have r0 := hwr.keep q0
    have r1 := hwr.keep q1
    by_cases hjt : j < n
    · have i1 : (0 : Int) ≤ (n : Int) - 1 - (j : Int) := by omega
      have y1 : wrap64 ((n : Int) - 1 - (j : Int) - 1) = (n : Int) - 1 - ((j + 1 : Nat) : Int) := by rw [IntWalk.wrap64_in _ (by omega)]; omega
      have hPL : Hid (Calls Try.prog 76 #[.slice av n cv, .int .i64 ((n : Int) - 1 - (j : Int))] wr fun e w' => e = .returned (.int .i64 (mjG n vs j)) ∧ Ext wr w') := by
        have h := place_spec wr av cv (upsL n vs) ((n : Int) - 1 - (j : Int)) (hRs.ext hwr) (by rw [HUL.out]; omega)
        rw [HUL.out] at h
        exact h
      have hrl := rowL_len j (mjG n vs)
      by_cases hneg : mjG n vs j < 0
      · have HN := hide (mj_none h0 n1 n2 (fun h => by have := h.1 j hjt; unfold mjG at hneg; omega))
        go_wp2_with fail
        refine hPL.out.mono ?_
        rintro e w3 ⟨rfl, hw3⟩
        go_wp2
        go_ret2
        exact ⟨.slice none 0 0, by simp [HN.out.1], by rw [HN.out.2]; exact OwnI.nil _ _, hw.trans (hwr.trans hw3)⟩
      · go_wp2_with fail
        refine hPL.out.mono ?_
        rintro e w3 ⟨rfl, hw3⟩
        have hwr3 := hwr.trans hw3
        have hown := hown.ext hw3
        go_wp2_with (at_builtin; go_loud (refine wpList_appI wb _ rfl _ _ rfl _ (rowL j (mjG n vs)) _ rfl (by exact hown) hwr3 rfl (by omega) ?_); intro v' w4 hown4 hw4)
        refine ⟨⟨j + 1, by omega, congrArg (Value.int .i64) (by omega), by rw [rowL_succ]; exact hown4, fun i hi => ?_, hw4⟩, by simp [intOf]; omega⟩
        by_cases hij : i = j
        · subst hij; omega
        · exact hpos.out i (by omega)
    · have i1 : ¬ (0 : Int) ≤ (n : Int) - 1 - (j : Int) := by omega
      have hjn : j = n := by omega
      rw [hjn] at hown hpos
      have HP := hide (fun (h : mjOk vs (mjS n vs) = true) => mj_some h0 n1 n2 hpos.out h)
      have HQ := hide (fun (h : ¬ mjOk vs (mjS n vs) = true) => mj_none h0 n1 n2 (fun h2 => h h2.2))
      have hlen := rowL_len n (mjG n vs)
      have hmj : mjS n vs = rowL n (mjG n vs) := rfl
      rw [hmj] at HP HQ
      obtain ⟨ao, co, rfl, hco, hcm, hRo, hju⟩ := hown.val
      generalize rowL n (mjG n vs) = L at hown hlen hco hRo HP HQ ⊢
      rw [hlen] at hco ⊢
      have HL := hide hlen
      have HO := hide hown
      clear hju hcm hmj hjn hjt hpos hlen hown hj
      have hR3 := hR2.ext hwr
      have hwc' := hwr
      clear hwr
      obtain ⟨wc, hwc⟩ : ∃ wc : World, wc = wr := ⟨_, rfl⟩
      subst hwc
      go_wp2_with fail
      go_loopw [9, 10, 12, 40, 48, 49, 50] (fun _ _ _ i _ _ _ wr => ∃ j : Nat, j ≤ n ∧ i = .int .i64 j ∧ Hid (∀ (p q : Nat) (x y : Int), p < q → p < j → L[p]? = some x → L[q]? = some y → beatsV vs x y = true) ∧ Ext wc wr) (fun _ _ _ i _ _ _ _ => n - (intOf i).toNat)
      case atStart => exact ⟨0, Nat.zero_le _, rfl, (fun p q x y _ h => by omega), Ext.refl _⟩
      case round =>
        obtain ⟨j, hj, rfl, hall, hwr⟩ := hrel
        by_cases hjt : j < n
        · obtain ⟨x, hx⟩ := at_of_lt (xs := L) (k := j) (by have := HL.out; omega)
          have hRr := hRo.ext hwr
          obtain ⟨b, off, rfl, c0⟩ := hRr.at_ hx
          have hRd := hRr.drop (n := off + (j + 1)) (j + 1) co (by have := HL.out; omega) rfl
          have i1' : (j : Int) + 1 ≤ (co : Int) := by omega
          have i2 : j ≤ co := by omega
          have i3 : j + 1 ≤ co := by omega
          have i4 : j + 1 ≤ n := by omega
          have i7 : (j : Int) + 1 ≤ (n : Int) := by omega
          have i5 : ((j : Int) + 1).toNat = j + 1 := by omega
          have i6 : (0 : Int) ≤ (j : Int) + 1 := by omega
          have y1 : wrap64 ((j : Int) + 1) = (j : Int) + 1 := IntWalk.wrap64_in _ (by omega)
          have y2 : IntKind.i64.wrap ((j : Int) + 1) = (j : Int) + 1 := IntWalk.i64_in _ (by omega)
          have HX := hide hx
          have HDL : Hid ((L.drop (j + 1)).length = n - (j + 1)) := hide (by rw [List.length_drop, HL.out])
          have HDA : Hid (∀ (t : Nat) (y : Int), (L.drop (j + 1))[t]? = some y → L[j + 1 + t]? = some y) := fun t y h => by rwa [List.getElem?_drop] at h
          have HDB : Hid (∀ (q : Nat) (y : Int), j < q → L[q]? = some y → (L.drop (j + 1))[q - (j + 1)]? = some y) := fun q y h1 h2 => by rw [List.getElem?_drop, show j + 1 + (q - (j + 1)) = q by omega]; exact h2
          clear hx
          go_wp2_with fail
          all_goals
            first | rw [if_pos (by assumption)] at hRd | rw [if_neg (by assumption)] at hRd
            first | subst h | clear h
            clear i1' i2 i3 i4 i5 i6 i7 y1 y2
            generalize L.drop (j + 1) = ys at hRd HDL HDA HDB
            obtain ⟨wo, hwo⟩ : ∃ wo : World, wo = wr := ⟨_, rfl⟩
            subst hwo
            go_loopw [12, 50] (fun _ m wr => ∃ k : Nat, k ≤ n - (j + 1) ∧ m = .int .i64 k ∧ Hid (∀ (t : Nat) (y : Int), t < k → ys[t]? = some y → beatsV vs x y = true) ∧ Ext wo wr) (fun _ m _ => n - (j + 1) - (intOf m).toNat)
            case atStart => exact ⟨0, Nat.zero_le _, rfl, (fun t y h => by omega), Ext.refl _⟩
            case round =>
              obtain ⟨k, hk, rfl, hbt, hwr2⟩ := hrel
              by_cases hkt : k < n - (j + 1)
              · obtain ⟨y, hy⟩ := at_of_lt (xs := ys) (k := k) (by have := HDL.out; omega)
                obtain ⟨b2, off2, hb2, d0⟩ := (hRd.ext hwr2).at_ hy
                injection hb2 with hb2
                injection hb2 with hb2 hb3
                subst hb2
                subst hb3
                have s0 := hwr2.keep (hwr.keep r0)
                have s1 := hwr2.keep (hwr.keep r1)
                have hRv := (hR3.ext hwr).ext hwr2
                have HY := hide hy
                clear hy
                cases hb : beatsV vs x y
                · have HN := hide (HQ.out (fun h => by
                    have := mj_not (vs := vs) (r := L) (i := j) (j := j + 1 + k) (by omega) HX.out (HDA.out k y HY.out) hb
                    rw [h] at this; cases this))
                  go_wp2_with (go_at_call 77; refine (beats_spec _ _ _ _ _ _ _ (hRv.ext (by repeat (first | exact Ext.refl _ | assumption | refine Ext.alloc ?_ _ | refine Ext.drew ?_ | refine Ext.trans ?_ (by assumption)))) HS.out).mono ?_; rintro e w1 ⟨rfl, hw1⟩)
                  all_goals go_ret2
                  all_goals exact ⟨.slice none 0 0, by simp [HN.out.1], by rw [HN.out.2]; exact OwnI.nil _ _, hw.trans (hwc'.trans (hwr.trans (hwr2.trans hw1)))⟩
                · go_wp2_with (go_at_call 77; refine (beats_spec _ _ _ _ _ _ _ (hRv.ext (by repeat (first | exact Ext.refl _ | assumption | refine Ext.alloc ?_ _ | refine Ext.drew ?_ | refine Ext.trans ?_ (by assumption)))) HS.out).mono ?_; rintro e w1 ⟨rfl, hw1⟩)
                  all_goals refine ⟨⟨k + 1, by omega, by go_num, fun t z ht hz => ?_, hwr2.trans hw1⟩, by simp [intOf]; omega⟩
                  all_goals
                    by_cases htk : t = k
                    · subst htk
                      have h2 := HY.out
                      rw [hz] at h2
                      injection h2 with h2
                      rw [h2]; exact hb
                    · exact hbt.out t z (by omega) hz
              · go_wp2
                refine ⟨⟨j + 1, by omega, by go_num, fun p q x' y' hpq hp hx' hy' => ?_, hwr.trans hwr2⟩, by simp [intOf]; omega⟩
                by_cases hpj : p = j
                · subst hpj
                  have h2 := HX.out
                  rw [hx'] at h2
                  injection h2 with h2
                  rw [h2]
                  have h3 := HDB.out q y' hpq hy'
                  exact hbt.out (q - (p + 1)) y' (by have := lt_of_at h3; have := HDL.out; omega) h3
                · exact hall.out p q x' y' hpq (by omega) hx' hy'
        · have HY := hide (HP.out (mj_yes (fun p q x y hpq hx hy => hall.out p q x y hpq (by have := lt_of_at hx; have := HL.out; omega) hx hy)))
          go_wp2
          go_ret2
          exact ⟨.slice _ n co, by simp [HY.out.1]; rfl, by rw [HY.out.2]; have h9 := (HO.out.ext hwr).base hw.size; rw [HL.out] at h9; exact h9, hw.trans (hwc'.trans hwr)⟩
set_option maxRecDepth 100000 in
theorem mjL_len (sz : Int) (vs : List Vt) : (mjL sz vs).length ≤ 5 := by
  unfold mjL
  cases h0 : profOk sz vs
  · simp
  · obtain ⟨n, rfl, n1, n2⟩ := prof_nat h0
    simp only [if_true, Int.toNat_natCast]
    unfold mjO
    cases hf : (allO n).find? (mjOk vs) with
    | none => simp
    | some r => exact (rk_len ((allO_mem n1 n2).1 (List.mem_of_find?_eq_some hf))).2

end Go.Proofs.Ytagepfgncbgncaa
