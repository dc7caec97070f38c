/- The ranking with the fewest pairs that are beaten backwards, of the spec. -/
import Derived.Test.YtacmabdeocmheaaKemI
import Derived.Test.YtacmabdeocmheaaMgn
import Derived.Test.YtacmabdeocmheaaAllT
namespace Go.Proofs.Ytacmabdeocmheaa
open Go.RowKit

set_option maxRecDepth 100000 in
theorem bkS_succ {q : Int → Int → Bool} {r : List Int} {j : Nat} {x : Int} (h : r[j]? = some x) : bkS q r (j + 1) = bkS q r j + (r.take j).countP (fun y => q x y) := by
  have : r.getD j 0 = x := by simp [List.getD, h]
  rw [bkS, this]
set_option maxRecDepth 100000 in
theorem bkS_le {q : Int → Int → Bool} {r : List Int} (hr : r.length ≤ 5) : ∀ j, j ≤ r.length → bkS q r j ≤ 5 * j
  | 0, _ => by simp [bkS]
  | j + 1, h => by
    obtain ⟨x, hx⟩ := at_of_lt (xs := r) (k := j) (by omega)
    have ih := bkS_le (q := q) hr j (by omega)
    have h2 := List.countP_le_length (p := fun y => q x y) (l := r.take j)
    rw [List.length_take] at h2
    rw [bkS_succ hx]
    omega
def leaI (vs : List Vt) (rows : List (List Int)) (k : Nat) : Int := if k = 0 then -1 else (lstT (slaN vs) rows k).2.1

set_option maxRecDepth 100000 in
set_option maxHeartbeats 8000000 in
theorem sla_spec (w : World) (sz : Int) (a : Option Addr) (c : Nat) (vs : List Vt) (hR : RdV w a vs) :
    Calls Try.prog 28 #[.agg #[.int .i64 sz, .slice a vs.length c]] w fun e w' => ∃ v, e = .returned (.tuple #[v, .int .i64 (slaW sz vs)]) ∧ OwnI w' w.heap.size v (slaO sz vs) ∧ Ext w w' := by
  have q0 := new0 w (.int .i64 sz) [.slice a vs.length c] 43
  have q1 := new1 w (.int .i64 sz) (.slice a vs.length c) [] 43
  cases h0 : profOk sz vs
  · go_enter Try.func28, Try.ntmps28
    go_wp2_with (go_at_call 122; refine (prof_spec _ _ _ _ _ (hR.ext (by repeat (first | exact Ext.refl _ | assumption | refine Ext.alloc ?_ _ | refine Ext.drew ?_ | refine Ext.trans ?_ (by assumption))))).mono ?_; rintro e w1 ⟨rfl, hw1⟩; have q0 := Ext.keep (w' := w1) (by repeat (first | exact Ext.refl _ | assumption | refine Ext.alloc ?_ _ | refine Ext.drew ?_ | refine Ext.trans ?_ (by assumption))) q0; have q1 := Ext.keep (w' := w1) (by repeat (first | exact Ext.refl _ | assumption | refine Ext.alloc ?_ _ | refine Ext.drew ?_ | refine Ext.trans ?_ (by assumption))) q1)
    go_ret2
    exact ⟨.slice none 0 0, by simp [slaW, h0], by simp [slaO, lstO, h0]; exact OwnI.nil _ _, (by repeat (first | exact Ext.refl _ | assumption | refine Ext.alloc ?_ _ | refine Ext.drew ?_ | refine Ext.trans ?_ (by assumption)))⟩
  obtain ⟨n, rfl, n1, n2⟩ := prof_nat h0
  have HK : Hid (slaO n vs = (lstR (slaN vs) n).1 ∧ slaW n vs = (lstR (slaN vs) n).2.1) := hide (by simp [slaO, slaW, lstO, h0])
  go_enter Try.func28, Try.ntmps28
  go_wp2_with (go_at_call 122; refine (prof_spec _ _ _ _ _ (hR.ext (by repeat (first | exact Ext.refl _ | assumption | refine Ext.alloc ?_ _ | refine Ext.drew ?_ | refine Ext.trans ?_ (by assumption))))).mono ?_; rintro e w1 ⟨rfl, hw1⟩; have q0 := Ext.keep (w' := w1) (by repeat (first | exact Ext.refl _ | assumption | refine Ext.alloc ?_ _ | refine Ext.drew ?_ | refine Ext.trans ?_ (by assumption))) q0; have q1 := Ext.keep (w' := w1) (by repeat (first | exact Ext.refl _ | assumption | refine Ext.alloc ?_ _ | refine Ext.drew ?_ | refine Ext.trans ?_ (by assumption))) q1)
  have hw : Ext w w1 := (by repeat (first | exact Ext.refl _ | assumption | refine Ext.alloc ?_ _ | refine Ext.drew ?_ | refine Ext.trans ?_ (by assumption)))
  obtain ⟨wb, hwb⟩ : ∃ wb : World, wb = w1 := ⟨_, rfl⟩
  subst hwb
  have hO := OwnI.made0 wb
  have hE := Ext.new wb (.cells #[] 3)
  generalize wb.alloc (.cells #[] 3) = W0 at hO hE ⊢
  have q0 := hE.keep q0
  have q1 := hE.keep q1
  clear hw1
  go_wp2_with fail
  refine (mgn_spec _ n a c vs (hR.ext (hw.trans hE)) (prof_small h0) n2).mono ?_
  rintro e w2 ⟨vm, rfl, hm, hw2⟩
  have q0 := hw2.keep q0
  have hMr := hm.wr.rd
  obtain ⟨am, cm, rfl, hju⟩ := hMr
  have hMr : RdSS w2 w2.heap.size (.slice am (tabL n (mgnV vs)).length cm) (tabL n (mgnV vs)) := ⟨am, cm, rfl, hju⟩
  rw [tabL_len] at hMr ⊢
  clear hju hm
  go_wp2_with fail
  refine (allR_spec _ n n1 n2).mono ?_
  rintro e w3 ⟨v, rfl, hv, hw3⟩
  have hMr := hMr.ext hw3
  have hO3 := (hO.ext hw2).ext hw3
  have hE3 : Ext wb w3 := (hE.trans hw2).trans hw3
  have HM : Hid (∀ r ∈ allO n, rkOk n r = true) := fun r hr => (allO_mem n1 n2).1 hr
  have HL : Hid (lstR (slaN vs) n = lstT (slaN vs) (allO n) (allO n).length) := rfl
  have hrl : (allO n).length ≤ 3125 := Nat.le_trans (allS_len n2 n []) (Nat.pow_le_pow_right (n := 5) (by decide) n2)
  have hrp := allO_pos n1 n2
  have hwb2 : wb.heap.size ≤ w2.heap.size := (hE.trans hw2).size
  generalize allO n = rows at hv HM HL hrl hrp
  have hv := hv.wr
  have hv' := hv
  obtain ⟨av, cv, rfl, hcv, hju⟩ := hv'
  clear hju q0 q1 h0 hO
  obtain ⟨wc, hwc⟩ : ∃ wc : World, wc = w3 := ⟨_, rfl⟩
  subst hwc
  have hS0 : OwnI wc wb.heap.size (.slice (some ⟨wb.heap.size, 0, none⟩) 0 0) (lstT (slaN vs) rows 0).1 := hO3
  clear hO3
  go_wp2_with fail
  go_loopw [4, 5, 8, 9, 10, 11, 13, 24, 28, 29, 30, 37, 38, 39] (fun v l _ _ _ _ _ i _ _ _ _ _ _ wr => ∃ k : Nat, k ≤ rows.length ∧ i = .int .i64 k ∧ l = .int .i64 (leaI vs rows k) ∧ OwnI wr wb.heap.size v (lstT (slaN vs) rows k).1 ∧ Ext wc wr) (fun _ _ _ _ _ _ _ i _ _ _ _ _ _ _ => rows.length - (intOf i).toNat)
  case atStart => exact ⟨0, Nat.zero_le _, rfl, rfl, hS0, Ext.refl _⟩
  case round =>
    clear hS0
    obtain ⟨k, hk, rfl, rfl, hown, hwr⟩ := hrel
    by_cases hkt : k < rows.length
    · obtain ⟨r, hr⟩ := at_of_lt hkt
      obtain ⟨g, c3, a3, c4, hav, d0, hc4, hO⟩ := (hv.ext hwr).own hr
      injection hav with hav hav2 hav3
      subst hav
      subst hav3
      clear hav2
      have hrk := HM.out r (List.mem_of_getElem? hr)
      have hrn : r.length = n := by have := (rk_len hrk).1; omega
      have HRM : Hid (∀ x ∈ r, ∃ i : Nat, i < n ∧ x = i) := fun x hx => by
        have := rk_mem hrk hx
        exact ⟨x.toNat, by omega, by omega⟩
      have HR := hide hr
      have HRN := hide hrn
      have hOr := hO.base hwb2
      rw [hrn] at hOr
      have HOr := hide hOr
      clear hOr
      have hRr := hO.rdI
      obtain ⟨q, hq⟩ : ∃ q : Int → Int → Bool, q = fun y x => beatsV vs y x := ⟨_, rfl⟩
      have HQ : Hid (slaN vs r = (bkS q r r.length : Nat)) := hide (by rw [hq, bkS_all]; rfl)
      have HQ2 := hide hq
      rw [hrn] at d0 hc4
      clear hr hrk hrn hO hq
      obtain ⟨wo, hwo⟩ : ∃ wo : World, wo = wr := ⟨_, rfl⟩
      subst hwo
      have HOW := hide hown
      clear hown
      go_wp2_with fail
      go_loopw [9, 10, 11, 13, 30, 37, 38, 39] (fun s _ _ _ i _ _ _ wr => ∃ j : Nat, j ≤ n ∧ i = .int .i64 j ∧ s = .int .i64 (bkS q r j : Nat) ∧ Ext wo wr) (fun _ _ _ _ i _ _ _ _ => n - (intOf i).toNat)
      case atStart => exact ⟨0, Nat.zero_le _, rfl, rfl, Ext.refl _⟩
      case round =>
        obtain ⟨j, hj, rfl, rfl, hwr2⟩ := hrel
        have hbs := bkS_le (q := q) (r := r) (by rw [HRN.out]; exact n2) j (by rw [HRN.out]; exact hj)
        by_cases hjt : j < n
        · obtain ⟨x, hx⟩ := at_of_lt (xs := r) (k := j) (by rw [HRN.out]; exact hjt)
          obtain ⟨i, hi, rfl⟩ := HRM.out x (List.mem_of_getElem? hx)
          obtain ⟨b, off, rfl, c0⟩ := (hRr.ext hwr2).at_ hx
          have HSU := hide (bkS_succ (q := q) hx)
          have i2 : j ≤ c4 := by omega
          clear hx
          go_wp2_with fail
          go_loopw [9, 13, 39] (fun s _ p wr => ∃ m : Nat, m ≤ j ∧ p = .int .i64 m ∧ s = .int .i64 ((bkS q r j : Int) + ((r.take m).countP (fun y => q (i : Int) y) : Int)) ∧ Ext wo wr) (fun _ _ p _ => j - (intOf p).toNat)
          case atStart => exact ⟨0, Nat.zero_le _, rfl, by simp, hwr2⟩
          case round =>
            clear c0 hwr2
            obtain ⟨m, hm, rfl, rfl, hwr2⟩ := hrel
            have hcm := List.countP_le_length (p := fun y => q (i : Int) y) (l := r.take m)
            rw [List.length_take] at hcm
            by_cases hmt : m < j
            · obtain ⟨y, hy⟩ := at_of_lt (xs := r) (k := m) (by rw [HRN.out]; omega)
              obtain ⟨p, hp, rfl⟩ := HRM.out y (List.mem_of_getElem? hy)
              obtain ⟨b2, off2, hb2, c1⟩ := (hRr.ext hwr2).at_ hy
              injection hb2 with hb2
              injection hb2 with hb2 hb3
              subst hb2
              subst hb3
              obtain ⟨bm, om, ax, cx, rfl, d1, hRx⟩ := (hMr.ext (hwr.trans hwr2)).at_ (tabL_at (M := mgnV vs) hi)
              rw [rowL_len] at d1
              obtain ⟨by_, oy, rfl, d2⟩ := hRx.at_ (rowL_at (f := mgnV vs i) hp)
              have HN := hide (countP_at (p := fun y => q (i : Int) y) hy)
              have HB : Hid (q (i : Int) (p : Int) = decide (0 < mgnV vs i p)) := hide (by
                rw [HQ2.out]
                show beatsV vs i p = decide (0 < mgnV vs i p)
                unfold beatsV mgnV marginV
                rw [decide_eq_decide]; omega)
              have y3 : wrap64 ((bkS q r j : Int) + ((r.take m).countP (fun y => q (i : Int) y) : Int) + 1) = (bkS q r j : Int) + ((r.take m).countP (fun y => q (i : Int) y) : Int) + 1 := IntWalk.wrap64_in _ (by omega)
              clear hy hRx hcm
              by_cases hpos : 0 < mgnV vs i p
              · have HNT : Hid ((bkS q r j : Int) + ((r.take m).countP (fun y => q (i : Int) y) : Int) + 1 = (bkS q r j : Int) + ((r.take (m + 1)).countP (fun y => q (i : Int) y) : Int)) := hide (by
                  rw [HN.out, HB.out, decide_eq_true hpos, if_pos rfl]; omega)
                clear HN HB
                go_wp2
                refine ⟨⟨m + 1, by omega, by go_num, ?_, hwr2⟩, by simp [intOf]; omega⟩
                exact congrArg (Value.int .i64) (by rw [y3]; exact HNT.out)
              · have HNF : Hid ((bkS q r j : Int) + ((r.take m).countP (fun y => q (i : Int) y) : Int) = (bkS q r j : Int) + ((r.take (m + 1)).countP (fun y => q (i : Int) y) : Int)) := hide (by
                  rw [HN.out, HB.out, decide_eq_false hpos, if_neg (by decide)]; omega)
                clear HN HB
                go_wp2
                refine ⟨⟨m + 1, by omega, by go_num, ?_, hwr2⟩, by simp [intOf]; omega⟩
                exact congrArg (Value.int .i64) HNF.out
            · have hmj : m = j := by omega
              subst hmj
              go_wp2
              exact ⟨⟨m + 1, by omega, by go_num, by rw [HSU.out, Int.natCast_add], hwr2⟩, by simp [intOf]; omega⟩
        · have hjn : j = n := by omega
          have HC : Hid ((bkS q r j : Int) = slaN vs r) := hide (by rw [HQ.out, HRN.out, hjn])
          have hown := HOW.out.ext hwr2
          have hwr3 := hwr.trans hwr2
          have HOR := hide (HOr.out.ext hwr2)
          have hsb := slaN_bd (vs := vs) (r := r) (by rw [HRN.out]; exact n2)
          have HF := HC.out
          clear hjn hbs
          by_cases hk0 : k = 0
          · have HT := hide (lstT_new (cost := slaN vs) HR.out (.inl hk0))
            have hl : leaI vs rows k = -1 := by unfold leaI; rw [if_pos hk0]
            rw [hl]
            go_wp2
            exact ⟨⟨k + 1, by omega, by go_num, by unfold leaI; rw [if_neg (by omega), HT.out, HF], by rw [HT.out]; exact HOR.out, hwr3⟩, by simp [intOf]; omega⟩
          · have hl : leaI vs rows k = (lstT (slaN vs) rows k).2.1 := by unfold leaI; rw [if_neg hk0]
            have hme := (lstT_mem (cost := slaN vs) (xss := rows) k (by omega) hk)
            have hlb := slaN_bd (vs := vs) (r := (lstT (slaN vs) rows k).1) (rk_len (HM.out _ hme.1)).2
            rw [hl]
            have hlp : ¬ (lstT (slaN vs) rows k).2.1 < 0 := by rw [hme.2]; omega
            clear hme hlb hl
            by_cases hlt : slaN vs r < (lstT (slaN vs) rows k).2.1
            · have HT := hide (lstT_new (cost := slaN vs) HR.out (.inr hlt))
              have t1 : (bkS q r j : Int) < (lstT (slaN vs) rows k).2.1 := by rw [HF]; exact hlt
              go_wp2
              exact ⟨⟨k + 1, by omega, by go_num, by unfold leaI; rw [if_neg (by omega), HT.out, HF], by rw [HT.out]; exact HOR.out, hwr3⟩, by simp [intOf]; omega⟩
            · have t1 : ¬ (bkS q r j : Int) < (lstT (slaN vs) rows k).2.1 := by rw [HF]; exact hlt
              have HT : Hid ((lstT (slaN vs) rows (k + 1)).1 = (lstT (slaN vs) rows k).1 ∧ (lstT (slaN vs) rows (k + 1)).2.1 = (lstT (slaN vs) rows k).2.1) := by
                rcases (show slaN vs r = (lstT (slaN vs) rows k).2.1 ∨ (lstT (slaN vs) rows k).2.1 < slaN vs r by omega) with h | h
                · rw [lstT_tie (cost := slaN vs) HR.out hk0 h]; exact hide ⟨rfl, rfl⟩
                · rw [lstT_old (cost := slaN vs) HR.out hk0 h]; exact hide ⟨rfl, rfl⟩
              go_wp2
              exact ⟨⟨k + 1, by omega, by go_num, by unfold leaI; rw [if_neg (by omega), HT.out.2], by rw [HT.out.1]; exact hown, hwr3⟩, by simp [intOf]; omega⟩
    · have hkn : k = rows.length := by omega
      have HE : Hid (lstR (slaN vs) n = lstT (slaN vs) rows k) := hide (by rw [HL.out, hkn])
      have hl : leaI vs rows k = (lstT (slaN vs) rows k).2.1 := by unfold leaI; rw [if_neg (by omega)]
      rw [hl]
      have hws := hw.size
      clear hkn hl
      go_wp2
      go_ret2
      exact ⟨_, (by rw [HK.out.2, HE.out]; rfl), by rw [HK.out.1, HE.out]; exact hown.base hws, hw.trans (hE3.trans hwr)⟩

end Go.Proofs.Ytacmabdeocmheaa
