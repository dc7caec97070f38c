/- Merged profiles, of the program. The first axis, the peaked rankings and their number, of the program. -/
import Derived.Test.YtkbbcglghfddjaaCg17
import Derived.Test.YtkbbcglghfddjaaCg12
import Derived.Test.YtkbbcglghfddjaaCg7
import Derived.Test.YtkbbcglghfddjaaCg18
import Derived.Test.YtkbbcglghfddjaaCg14
import Derived.Test.YtkbbcglghfddjaaCg10
import Derived.Test.YtkbbcglghfddjaaCg15
namespace Go.Proofs.Ytkbbcglghfddjaa
open Go.RowKit

set_option maxRecDepth 100000 in
theorem rn_at {xss : List (List Int)} {r : List Int} (hn : xss.Nodup) {k : Nat} (hk : xss[k]? = some r) : findI (fun x => decide (x = r)) xss = k := by
  refine findI_some hk ?_ (by simp)
  rw [List.all_eq_true]
  intro x hx
  obtain ⟨j, hj⟩ := List.mem_iff_getElem?.1 hx
  have hjk : j < k := by have := lt_of_at hj; rw [List.length_take] at this; omega
  rw [List.getElem?_take_of_lt hjk] at hj
  have l1 := lt_of_at hj
  have l2 := lt_of_at hk
  rw [List.getElem?_eq_getElem l1] at hj
  rw [List.getElem?_eq_getElem l2] at hk
  injection hj with hj
  injection hk with hk
  have := List.pairwise_iff_getElem.1 hn j k l1 l2 hjk
  rw [hj, hk] at this
  simpa using this

set_option maxRecDepth 100000 in
set_option maxHeartbeats 1000000 in
theorem rnum_one (w : World) (g : Nat) (a1 a2 : Option Addr) (c1 c2 : Nat) (xs ys : List Int) (h : w.cell? ⟨g, 0, none⟩ = some (.slice a2 ys.length c2)) (hX : RdI w a1 xs) (hY : RdI w a2 ys) (hl : xs.length ≤ 2000000) :
    Calls Try.prog 70 (#[] ++ (#[.slice a1 xs.length c1] ++ #[.pointer (some ⟨g, 0, none⟩)])) w fun e w' => e = .returned (.bool (decide (xs = ys))) ∧ Ext w w' := by
  show Calls Try.prog 70 #[.slice a1 xs.length c1, .pointer (some ⟨g, 0, none⟩)] w _
  go_enter Try.func70, Try.ntmps70
  go_wp2_with (go_at_call 71; refine (equ_impl _ _ _ _ _ _ _ (hX.ext (by repeat (first | exact Ext.refl _ | assumption | refine Ext.alloc ?_ _ | refine Ext.drew ?_ | refine Ext.trans ?_ (by assumption)))) (hY.ext (by repeat (first | exact Ext.refl _ | assumption | refine Ext.alloc ?_ _ | refine Ext.drew ?_ | refine Ext.trans ?_ (by assumption)))) hl).mono ?_; rintro e w1 ⟨rfl, hw1⟩)
  go_ret
  exact ⟨rfl, (by repeat (first | exact Ext.refl _ | assumption | refine Ext.alloc ?_ _ | refine Ext.drew ?_ | refine Ext.trans ?_ (by assumption)))⟩

set_option maxRecDepth 100000 in
set_option maxHeartbeats 2000000 in
theorem rnum_impl (w : World) (n : Nat) (a : Option Addr) (c : Nat) (xs : List Int) (n1 : 1 ≤ n) (n5 : n ≤ 5) (hR : RdI w a xs) (hx : rkOk n xs = true) (k : Nat) (hk : (allO n)[k]? = some xs) :
    Calls Try.prog 38 #[.slice a xs.length c] w fun e w' => e = .returned (.int .i64 k) ∧ Ext w w' := by
  have hl := (rk_len hx).1
  have q0 := new0 w (.slice a xs.length c) [] 31
  have HA : Hid (∀ W, Calls Try.prog 37 #[.int .i64 (xs.length : Nat)] W fun e w' => ∃ v, e = .returned v ∧ OwnSS w' W.heap.size v (allO n) ∧ Ext W w') := hide (fun W => by
    have := allR_impl W n n1 n5
    rw [show (xs.length : Nat) = n by omega]
    exact this)
  have hnd := allO_nodup n5
  have hal := allO_len n5
  have HF := hide (rn_at hnd hk)
  have h5 : xs.length ≤ 2000000 := by omega
  have HM : Hid (∀ ys ∈ allO n, ys.length ≤ 2000000) := hide (fun ys hy => by have := (rk_len ((allO_mem n1 n5).1 hy)).2; omega)
  generalize allO n = rows at HA hal HF HM
  clear hx hnd hk hl
  go_enter Try.func38, Try.ntmps38
  go_wp2_with fail
  refine (HA.out _).mono ?_
  rintro e w1 ⟨v, rfl, hv, hw1⟩
  have hE : Ext w w1 := (by repeat (first | exact Ext.refl _ | assumption | refine Ext.alloc ?_ _ | refine Ext.drew ?_ | refine Ext.trans ?_ (by assumption)))
  have q0 := Ext.keep (w' := w1) (by repeat (first | exact Ext.refl _ | assumption | refine Ext.alloc ?_ _ | refine Ext.drew ?_ | refine Ext.trans ?_ (by assumption))) q0
  have hv := hv.wr.rd
  have hv' := hv
  obtain ⟨av, cv, rfl, _⟩ := hv'
  have HI := hide (indexFuncR 70 #[] #[.pointer (some ⟨w.heap.size, 0, none⟩)] (fun x => decide (x = xs)) w1 _ av cv rows hv (by omega) Try.call70
    (fun ys a' c' w' hy hRy hw' => rnum_one w' w.heap.size a' a c' c ys xs (hw'.keep q0) hRy (hR.ext (hE.trans hw')) (HM.out ys hy)))
  clear hv
  go_wp2_with fail
  refine HI.out.mono ?_
  rintro e w2 ⟨rfl, hw2⟩
  rw [HF.out]
  go_wp2
  go_ret
  exact ⟨rfl, hE.trans hw2⟩

set_option maxRecDepth 100000 in
/-- The counts after some votes. -/
theorem cnt_step {rows : List (List Int)} (hn : rows.Nodup) {vs : List Vt} {k i : Nat} {x : Vt} (hx : vs[k]? = some x) (hi : rows[i]? = some x.1) : (rows.map (cntV (vs.take k))).set i (cntV (vs.take k) x.1 + x.2) = rows.map (cntV (vs.take (k + 1))) := by
  have hs : ∀ r, cntV (vs.take (k + 1)) r = cntV (vs.take k) r + if x.1 == r then x.2 else 0 := fun r => by
    unfold cntV
    rw [sumV_at hx]
  refine List.ext_getElem? (fun j => ?_)
  rw [List.getElem?_set, List.getElem?_map]
  by_cases e : i = j
  · subst e
    rw [if_pos rfl, if_pos (by rw [List.length_map]; exact lt_of_at hi), List.getElem?_map, hi, Option.map_some, hs]
    simp
  · rw [if_neg e, List.getElem?_map]
    cases hj : rows[j]? with
    | none => rfl
    | some r =>
      have hne : (x.1 == r) = false := by
        rw [beq_eq_false_iff_ne]
        rintro rfl
        have l1 := lt_of_at hi
        have l2 := lt_of_at hj
        rw [List.getElem?_eq_getElem l1] at hi
        rw [List.getElem?_eq_getElem l2] at hj
        injection hi with hi
        injection hj with hj
        rcases Nat.lt_or_ge i j with h | h
        · have := List.pairwise_iff_getElem.1 hn i j l1 l2 h
          rw [hi, hj] at this
          exact this rfl
        · have := List.pairwise_iff_getElem.1 hn j i l2 l1 (by omega)
          rw [hi, hj] at this
          exact this rfl
      rw [Option.map_some, Option.map_some, hs, hne]
      simp
/-- The merged votes of the first rankings. -/
def mrgL (f : List Int → Int) (rows : List (List Int)) : List Vt := (rows.map (fun r => (r, f r))).filter (fun x => decide (0 < x.2))
set_option maxRecDepth 100000 in
theorem mrgL_step {f : List Int → Int} {rows : List (List Int)} {k : Nat} {r : List Int} (h : rows[k]? = some r) : mrgL f (rows.take (k + 1)) = mrgL f (rows.take k) ++ if 0 < f r then [(r, f r)] else [] := by
  unfold mrgL
  rw [take_at h, List.map_append, List.filter_append, List.map_cons, List.map_nil, List.filter_cons, List.filter_nil]
  by_cases hp : 0 < f r
  · rw [if_pos (decide_eq_true hp), if_pos hp]
  · rw [if_neg (by simpa using hp), if_neg hp]
set_option maxRecDepth 100000 in
theorem mrgL_len (f : List Int → Int) (rows : List (List Int)) : (mrgL f rows).length ≤ rows.length := by
  unfold mrgL
  refine Nat.le_trans (List.length_filter_le _ _) ?_
  rw [List.length_map]
  exact Nat.le_refl _
set_option maxRecDepth 100000 in
theorem RowsV.only {w w' : World} {B g : Nat} {v : Value} {es : List (RowE × Int)} (h : RowsV w B v es) (hg : g < B) (hw : Only g w w') : RowsV w' B v es := by
  refine World.ownsRow.kept h hw ?_
  cases hv : v.ownBlock with
  | none => exact .inl rfl
  | some k =>
    refine .inr (fun e => ?_)
    injection e with e
    have := (World.ownsRow.lt h k hv).1
    omega
set_option maxRecDepth 100000 in
/-- Votes whose rankings lie anywhere. -/
theorem RowsV.rdA {w : World} {B : Nat} {a : Option Addr} {n c : Nat} {es : List (RowE × Int)} (h : RowsV w B (.slice a n c) es) (hf : ∀ e ∈ es, ∃ a2 c2, rowV e.1 = .slice a2 e.1.xs.length c2 ∧ e.1.xs.length ≤ c2 ∧ RdI w a2 e.1.xs) : RdV w a (vtsOf es) := fun hne => by
  have hne' : es ≠ [] := fun e => hne (by rw [e]; rfl)
  rcases h.val with ⟨_, he⟩ | ⟨g, c', hv, hc, hg, hB⟩
  · exact absurd he hne'
  · injection hv with h1 h2 h3
    subst h1
    refine ⟨g, 0, rfl, fun j x hx => ?_⟩
    unfold vtsOf at hx
    rw [List.getElem?_map, Option.map_eq_some_iff] at hx
    obtain ⟨e, he, rfl⟩ := hx
    have hl := lt_of_at he
    obtain ⟨c0, c1⟩ := vtL_at he
    obtain ⟨a2, c2, hv2, hc2, hR2⟩ := hf e (List.mem_of_getElem? he)
    unfold rowV at hv2
    injection hv2 with e1 e2 e3
    refine ⟨e.1.a, e.1.c, ?_, ?_, by rw [e3]; exact hc2, by rw [e1]; exact hR2⟩
    · rw [Nat.zero_add, hB.cell _ (by omega), ← e2]
      simp [List.getD, c0, rowV]
    · rw [Nat.zero_add, hB.cell _ (by omega)]
      simp [List.getD, c1]

set_option maxRecDepth 100000 in
set_option maxHeartbeats 8000000 in
theorem mrg_impl (w : World) (n : Nat) (a : Option Addr) (c : Nat) (vs : List Vt) (hR : RdV w a vs) (h0 : profOk n vs = true) (hv : allV vs ≤ 1000) :
    Calls Try.prog 8 #[.agg #[.int .i64 n, .slice a vs.length c]] w fun e w' => ∃ a' c', e = .returned (.tuple #[.agg #[.int .i64 n, .slice a' (mrgV n vs).length c'], .bool true]) ∧ RdV w' a' (mrgV n vs) ∧ (mrgV n vs).length ≤ c' ∧ Ext w w' := by
  have hsz := prof_size h0
  have n1 : 1 ≤ n := by omega
  have n5 : n ≤ 5 := by omega
  have HS := hide (prof_small h0)
  have hvl := (prof_small h0).1
  have hm24 : (mrgV n vs).length ≤ 24 := Nat.le_trans (mrg_len h0) hvl
  have HOK : Hid (∀ W a' c', RdV W a' (mrgV n vs) → Calls Try.prog 17 #[.agg #[.int .i64 n, .slice a' (mrgV n vs).length c']] W fun e w' => e = .returned (.bool true) ∧ Ext W w') := hide (fun W a' c' h => by
    have := prof_impl W n a' c' _ h
    rw [mrg_ok h0 hv] at this
    exact this)
  have HND := hide (allO_nodup n5)
  have hal := allO_len n5
  have hpos : 0 < (allO n).length := by
    obtain ⟨r, hr⟩ := allO_ne n1 n5
    exact List.length_pos_of_mem hr
  have HMV : Hid (mrgV n vs = mrgL (cntV vs) (allO n)) := hide rfl
  have HRK : Hid (∀ x ∈ vs, ∃ i, (allO n)[i]? = some x.1) := hide (fun x hx => List.mem_iff_getElem?.1 ((allO_mem n1 n5).2 ((prof_small h0).2 x hx).1))
  have HA := hide (fun W => allR_impl W n n1 n5)
  have HRN := hide (fun (W : World) (x : Vt) (a' : Option Addr) (c' k : Nat) (hx : x ∈ vs) (hR' : RdI W a' x.1) (hk : (allO n)[k]? = some x.1) => rnum_impl W n a' c' x.1 n1 n5 hR' ((prof_small h0).2 x hx).1 k hk)
  have HC1 : Hid (∀ k, k ≤ vs.length → ∀ r, 0 ≤ cntV (vs.take k) r ∧ cntV (vs.take k) r ≤ 1000 * k) := hide (fun k hk r => sumV_bd (prof_small h0) k hk)
  have HC0 : Hid (∀ r, 0 ≤ cntV vs r ∧ cntV vs r ≤ 24000) := hide (fun r => sumV_bd' (prof_small h0))
  have hmg : Hid (profOk n vs = true) := h0
  obtain ⟨i0, hi, hz0, hz1, hz2⟩ := info_parts info_int
  generalize allO n = rows at HND hal hpos HMV HRK HA HRN
  have hmk := fun W => run_make_rowN (P := Try.prog) 31 3 i0 _ Try.underlying31 hi hz0 .i64 .i64 rows.length rows.length (Nat.le_refl _) (by rw [hz2]; omega) (by omega) W
  rw [hz1, Nat.mul_one] at hmk
  have q0 := new0 w (.int .i64 n) [.slice a vs.length c] 26
  have q1 := new1 w (.int .i64 n) (.slice a vs.length c) [] 26
  have p0 := BlkF.new (w.alloc (.cells #[.int .i64 n, .slice a vs.length c] 26)) #[.int .i64 0, .slice none 0 0] 26
  rw [show (w.alloc (.cells #[.int .i64 n, .slice a vs.length c] 26)).heap.size = w.heap.size + 1 by simp] at p0
  have HPO : Hid (∀ W, Ext w W → Calls Try.prog 17 #[.agg #[.int .i64 n, .slice a vs.length c]] W fun e w' => e = .returned (.bool true) ∧ Ext W w') := hide (fun W hW => by
    have := prof_impl W n a c vs (hR.ext hW)
    rw [h0] at this
    exact this)
  have P0 := hide p0
  clear p0 hsz h0 hv
  go_enter Try.func8, Try.ntmps8
  go_wp2_with (go_at_call 17; refine (HPO.out _ (by repeat (first | exact Ext.refl _ | assumption | refine Ext.alloc ?_ _ | refine Ext.drew ?_ | refine Ext.trans ?_ (by assumption)))).mono ?_; rintro e w1 ⟨rfl, hw1⟩; have q0 := Ext.keep (w' := w1) (by repeat (first | exact Ext.refl _ | assumption | refine Ext.alloc ?_ _ | refine Ext.drew ?_ | refine Ext.trans ?_ (by assumption))) q0; have q1 := Ext.keep (w' := w1) (by repeat (first | exact Ext.refl _ | assumption | refine Ext.alloc ?_ _ | refine Ext.drew ?_ | refine Ext.trans ?_ (by assumption))) q1)
  have P1 := hide (P0.out.ext hw1)
  refine (HA.out _).mono ?_
  rintro e w2 ⟨v2, rfl, hv2, hw2⟩
  obtain ⟨av2, cv2, rfl, _⟩ := hv2.wr
  have hw : Ext w w2 := (by repeat (first | exact Ext.refl _ | assumption | refine Ext.alloc ?_ _ | refine Ext.drew ?_ | refine Ext.trans ?_ (by assumption)))
  have q0 := hw2.keep q0
  have q1 := hw2.keep q1
  have P2 := hide (P1.out.ext hw2)
  clear P0 P1 hv2 hw1 hw2
  go_wp2_with fail
  clear hmk
  have hO := OwnI.made w2 rows.length (by omega)
  have hE := Ext.new w2 (.cells (madeCells #[.int .i64 0] rows.length) 3)
  have hp2 := P2.out.lt
  obtain ⟨wo, hwo⟩ : ∃ wo : World, wo = w2 := ⟨_, rfl⟩
  subst hwo
  generalize wo.alloc (.cells (madeCells #[.int .i64 0] rows.length) 3) = W1 at hO hE ⊢
  go_loopw [6, 22] (fun _ i wr => ∃ k : Nat, k ≤ vs.length ∧ i = .int .i64 k ∧ OwnI wr wo.heap.size (.slice (some ⟨wo.heap.size, 0, none⟩) rows.length rows.length) (rows.map (cntV (vs.take k))) ∧ Ext wo wr) (fun _ i _ => vs.length - (intOf i).toNat)
  case atStart =>
    refine ⟨0, Nat.zero_le _, rfl, ?_, hE⟩
    have e : rows.map (cntV (vs.take 0)) = rowL rows.length (fun _ => 0) := by
      unfold rowL
      refine List.ext_getElem? (fun j => ?_)
      by_cases hj : j < rows.length
      · rw [List.getElem?_map, List.getElem?_eq_getElem hj, List.getElem?_map, List.getElem?_range hj]
        rfl
      · rw [List.getElem?_eq_none (by rw [List.length_map]; omega), List.getElem?_eq_none (by rw [List.length_map, List.length_range]; omega)]
    rw [e]
    exact hO
  case round =>
    clear hO hE
    obtain ⟨k, hk, rfl, hrow, hwr⟩ := hrel
    have hww := hw.trans hwr
    by_cases hlt : k < vs.length
    · obtain ⟨v, hx⟩ := at_of_lt hlt
      obtain ⟨b, off, a', c', rfl, c0, c1, hc', hRx⟩ := (hR.ext hww).at_ hx
      obtain ⟨x0, x1, x2⟩ := HS.out.2 v (List.mem_of_getElem? hx)
      obtain ⟨i, hi9⟩ := HRK.out v (List.mem_of_getElem? hx)
      have hil := lt_of_at hi9
      have hat : (rows.map (cntV (vs.take k)))[i]? = some (cntV (vs.take k) v.1) := by rw [List.getElem?_map, hi9]; rfl
      obtain ⟨s1, s2⟩ := HC1.out k hk v.1
      obtain ⟨d0, z0, hst⟩ := hrow.storeAt hat
      have HST : Hid (rows.map (cntV (vs.take (k + 1))) = (rows.map (cntV (vs.take k))).set i (cntV (vs.take k) v.1 + v.2)) := hide (cnt_step HND.out hx hi9).symm
      have HN := hide (fun (W : World) (hW : Ext wr W) => HRN.out W v a' c' i (List.mem_of_getElem? hx) (hRx.ext hW) hi9)
      have HROW := hide hrow
      have HAT := hide hat
      have y2 : IntKind.i64.wrap (cntV (vs.take k) v.1 + v.2) = cntV (vs.take k) v.1 + v.2 := by rw [IntWalk.i64_left, IntWalk.wrap64_in _ (by omega)]
      have e0 := new0 wr (.slice a' v.1.length c') [.int .i64 v.2] 59
      have e1 := new1 wr (.slice a' v.1.length c') (.int .i64 v.2) [] 59
      clear hx hi9 hat hst hrow x0
      generalize cntV (vs.take k) v.1 = S at s1 s2 d0 HST HAT y2
      go_wp2
      refine wp_region_P [0,1,2,6,7,3,4,5,8,9,10] (by kernel_rfl) rfl (by kernel_rfl) ?_
      repeat' (refine wpP_stepQ rfl (fun K hK => ?_)
               go_simp
               try (rw [if_neg (by intro h; simp [undef] at h)])
               try split
               all_goals
                 first
                 | (refine hK _ ?_
                    clear hK K)
                 | (apply Exists.intro
                    refine ⟨fun wq hwq => ?_, hK _ ?_⟩
                    · have hcq := hwq.cellS
                      go_simp
                      first
                      | exact ⟨Ext.refl _, rfl⟩
                    clear hK K))
      refine wpP_stepS rfl (by kernel_rfl) (fun K hK wq hwq => ?_)
      go_simp
      refine (HN.out _ (by repeat (first | exact Ext.refl _ | assumption | refine Ext.alloc ?_ _ | refine Ext.drew ?_ | refine Ext.trans ?_ (by assumption)))).mono ?_
      rintro e w3 ⟨rfl, hw3⟩
      refine ⟨hw3, hK _ _ ?_⟩
      clear hK K
      have hE3 : Ext wr w3 := (by repeat (first | exact Ext.refl _ | assumption | refine Ext.alloc ?_ _ | refine Ext.drew ?_ | refine Ext.trans ?_ (by assumption)))
      have d1 := hE3.keep d0
      have z1 : w3.frozen? ⟨wo.heap.size, i, none⟩ = false := (hE3.frozenS _ (by rw [d0]; rfl)).trans z0
      clear d0 z0
      repeat' (refine wpP_stepQ rfl (fun K hK => ?_)
               go_simp
               try (rw [if_neg (by intro h; simp [undef] at h)])
               try split
               all_goals
                 first
                 | (refine hK _ ?_
                    clear hK K)
                 | (apply Exists.intro
                    refine ⟨fun wq hwq => ?_, hK _ ?_⟩
                    · have hcq := hwq.cellS
                      go_simp
                      first
                      | exact ⟨Ext.refl _, rfl⟩
                    clear hK K))
      refine wpP_stepL rfl (by kernel_rfl) (by kernel_rfl) (by kernel_rfl) (fun K hK wz hwz => ?_)
      have hcz := hwz.cellS
      have hfz := hwz.frozenS
      go_simp
      refine hK _ _ ?_
      clear hK K
      go_wp2
      have hE4 : Ext wr wz := (by repeat (first | exact Ext.refl _ | assumption | refine Ext.alloc ?_ _ | refine Ext.drew ?_ | refine Ext.trans ?_ (by assumption)))
      have hst := ((HROW.out.ext hE4).storeAt HAT.out).2.2 (S + v.2)
      rw [← HST.out] at hst
      exact ⟨⟨k + 1, by omega, by go_num, hst, Ext.setCell (hwr.trans hE4) (Nat.le_refl _) _⟩, by simp [intOf]; omega⟩
    · have hkn : vs.take k = vs := List.take_of_length_le (by omega)
      rw [hkn] at hrow
      have HROW := hide hrow
      have q0 := hwr.keep q0
      have q1 := hwr.keep q1
      have P3 := hide (P2.out.ext hwr)
      have hcn : wo.heap.size < wr.heap.size := (World.ownsRow.lt hrow wo.heap.size rfl).2
      clear hkn hrow hw P2 hR HRK HRN HC1 HPO HND
      obtain ⟨wc, hwc⟩ : ∃ wc : World, wc = wr := ⟨_, rfl⟩
      subst hwc
      have hB := (BlkF.new wc #[.int .i64 n, .slice none 0 0] 26).congr (f' := boxF n (.slice none 0 0)) (fun o ho => by
        match o, ho with
        | 0, _ => rfl
        | 1, _ => rfl)
      have hE0 := Ext.new wc (.cells #[.int .i64 n, .slice none 0 0] 26)
      have hs0 : (wc.alloc (.cells #[.int .i64 n, .slice none 0 0] 26)).heap.size = wc.heap.size + 1 := by simp
      have hB := hB.congr (f' := boxF n (.slice none 0 0)) (fun _ _ => rfl)
      go_wp2_with fail
      obtain ⟨g, hg⟩ : ∃ g : Nat, g = wc.heap.size := ⟨_, rfl⟩
      generalize wc.alloc (.cells #[.int .i64 n, .slice none 0 0] 26) = W0 at hB hE0 hs0 ⊢
      rw [← hg] at hB hs0 ⊢
      refine (HA.out _).mono ?_
      rintro e w4 ⟨v4, rfl, hv4, hw4⟩
      have hv4 := hv4.wr
      obtain ⟨av4, cv4, rfl, _, hm4⟩ := hv4
      obtain ⟨gq, us, rfl, hMat⟩ := hm4 (List.ne_nil_of_length_pos hpos)
      have hB := hB.ext hw4
      have hE4 : Ext wc w4 := hE0.trans hw4
      have hgc : wc.heap.size ≤ g := by omega
      have hcg : wo.heap.size < g := by omega
      have hsg : g + 1 ≤ W0.heap.size := by omega
      obtain ⟨S0, hS0⟩ : ∃ S0 : Nat, S0 = W0.heap.size := ⟨_, rfl⟩
      obtain ⟨S4, hS4⟩ : ∃ S4 : Nat, S4 = w4.heap.size := ⟨_, rfl⟩
      rw [← hS0] at hMat hsg
      have hS04 : S0 ≤ S4 := by rw [hS0, hS4]; exact hw4.size
      have hS4' : S4 ≤ w4.heap.size := by omega
      have hS4'' : w4.heap.size ≤ S4 := by omega
      clear hS0 hs0 hE0 hw4 hm4 hg
      have q0 := hE4.keep q0
      have q1 := hE4.keep q1
      obtain ⟨wd, hwd⟩ : ∃ wd : World, wd = w4 := ⟨_, rfl⟩
      subst hwd
      go_wp2_with fail
      go_loopw [8, 9, 44] (fun _ _ i wr => ∃ (k : Nat) (v : Value) (es : List (RowE × Int)), k ≤ rows.length ∧ i = .int .i64 k ∧ BlkF wr g 2 (boxF n v) ∧ RowsV wr S4 v es ∧ Hid (∀ e ∈ es, ∃ j, rowV e.1 = us j ∧ rows[j]? = some e.1.xs) ∧ Hid (vtsOf es = mrgL (cntV vs) (rows.take k)) ∧ Keeps S0 S4 wd wr ∧ S4 ≤ wr.heap.size ∧ Ext wc wr) (fun _ _ i _ => rows.length - (intOf i).toNat)
      case atStart => exact ⟨0, _, [], Nat.zero_le _, rfl, hB, RowsV.nil _ _, hide (fun e he => by simp at he), hide rfl, Keeps.refl _ _ _, hS4', hE4⟩
      case round =>
        clear hB
        obtain ⟨k, v, es, hk, rfl, hB, hl, HUS, HES, hKp, hSr, hwr⟩ := hrel
        have hMr := hMat.keeps hKp hS4''
        have b0 := hB.cell 0 (by omega)
        have b1 := hB.cell 1 (by omega)
        rw [show boxF n v 0 = .int .i64 n from rfl] at b0
        rw [show boxF n v 1 = v from rfl] at b1
        by_cases hkt : k < rows.length
        · obtain ⟨r, hr⟩ := at_of_lt hkt
          have hrow := hMr.row k hkt
          rw [show rows.getD k [] = r by simp [List.getD, hr]] at hrow
          obtain ⟨a', c', hu, hc', _, hRr, _⟩ := hrow.val
          have d0 := hMr.outer.cell k hkt
          rw [hu] at d0
          have hat : (rows.map (cntV vs))[k]? = some (cntV vs r) := by rw [List.getElem?_map, hr]; rfl
          obtain ⟨d1, _, _⟩ := (HROW.out.ext hwr).storeAt hat
          have hstep := mrgL_step (f := cntV vs) hr
          obtain ⟨s1, s2⟩ := HC0.out r
          have hel : es.length ≤ k := by
            have h1 := congrArg List.length HES.out
            have h2 := mrgL_len (cntV vs) (rows.take k)
            unfold vtsOf at h1
            rw [List.length_map] at h1
            rw [List.length_take] at h2
            omega
          have HL := hide hl
          have HB := hide hB
          have HR := hide hr
          have HU := hide hu
          have HKP := hide hKp
          clear hl hB hr hu hrow hMr hRr hat
          by_cases hp : 0 < cntV vs r
          · rw [if_pos hp] at hstep
            have HST := hide hstep
            generalize cntV vs r = S at s1 s2 d1 HST hp
            clear hstep hKp
            go_wp2
            refine wp_region_P [0,1,2,3,4,5,6,7,8,9,10,11] (by kernel_rfl) rfl (by kernel_rfl) ?_
            repeat' (refine wpP_stepQ rfl (fun K hK => ?_)
                     go_simp
                     try (rw [if_neg (by intro h; simp [undef] at h)])
                     try split
                     all_goals
                       first
                       | (refine hK _ ?_
                          clear hK K)
                       | (apply Exists.intro
                          refine ⟨fun wq hwq => ?_, hK _ ?_⟩
                          · have hcq := hwq.cellS
                            go_simp
                            first
                            | exact ⟨Ext.refl _, rfl⟩
                          clear hK K))
            refine wpP_stepS rfl (by kernel_rfl) (fun K hK wq hwq => ?_)
            go_simp
            refine ⟨(by repeat (first | exact Ext.refl _ | assumption | refine Ext.alloc ?_ _ | refine Ext.drew ?_ | refine Ext.trans ?_ (by assumption))), hK _ _ ?_⟩
            clear hK K
            refine wpP_stepC rfl (by kernel_rfl) (fun K hK' wa hwa => ?_)
            refine Eq.mpr (if_pos rfl) ?_
            have hEa : Ext wr wa := (by repeat (first | exact Ext.refl _ | assumption | refine Ext.alloc ?_ _ | refine Ext.drew ?_ | refine Ext.trans ?_ (by assumption)))
            have hLa := HL.out.ext hEa
            refine oper_appV S4 wa _ _ rfl v es (⟨a', r.length, c', r⟩, S) _ rfl hLa (Nat.le_trans hSr hEa.size) rfl (hwa.keep (new0 wq _ _ _)) (hwa.keep (new1 wq _ _ _ _)) (by omega) ?_
            intro v' w5 hown5 hg5 hf5
            have hro : ∀ b, v.ownBlock = some b → S4 ≤ b := fun b hb => (World.ownsRow.lt HL.out b hb).1
            have hB5 := (HB.out.ext hEa).grown hg5 (fun b hb => by have := hro b hb; omega)
            have hE5 : Ext wc w5 := Ext.grown (hwr.trans hEa) hg5 (fun b hb => by have := hro b hb; omega)
            have hK5 := (HKP.out.ext hEa hSr).grown hg5 (Nat.le_trans hSr hEa.size) (fun b hb => .inr (hro b hb))
            have z1 := hB5.fr 1
            have d5 := hB5.cell 1 (by omega)
            rw [show boxF n v 1 = v from rfl] at d5
            have hsz5 := Nat.le_trans hSr (Nat.le_trans hEa.size hg5.size)
            obtain ⟨av, nv, cv, rfl⟩ : ∃ av nv cv, v' = .slice av nv cv := by
              rcases hown5.val with ⟨h, _⟩ | ⟨g9, c9, h, _⟩
              · exact ⟨_, _, _, h⟩
              · exact ⟨_, _, _, h⟩
            have HL5 := hide hown5
            have HB5 := hide hB5
            have HK5 := hide hK5
            clear hLa hro hown5 hg5 hf5 hB5 hEa hwa hwq b0 b1 hK5 d0 d1
            refine hK' _ _ ?_
            clear hK' K
            repeat' (refine wpP_stepQ rfl (fun K hK => ?_)
                     go_simp
                     try (rw [if_neg (by intro h; simp [undef] at h)])
                     try split
                     all_goals
                       first
                       | (refine hK _ ?_
                          clear hK K)
                       | (apply Exists.intro
                          refine ⟨fun wq hwq => ?_, hK _ ?_⟩
                          · have hcq := hwq.cellS
                            go_simp
                            first
                            | exact ⟨Ext.refl _, rfl⟩
                          clear hK K))
            refine wpP_stepL rfl (by kernel_rfl) (by kernel_rfl) (by kernel_rfl) (fun K hK wz hwz => ?_)
            have hcz := hwz.cellS
            have hfz := hwz.frozenS
            go_simp
            refine hK _ _ ?_
            clear hK K
            go_wp2
            have hOg : Only g wz (wz.setCell ⟨g, 1, none⟩ (.slice av nv cv)) := (Only.refl g wz).setCell 1 _
            have hsz6 := Nat.le_trans hsz5 (Nat.le_trans hwz.size hOg.size)
            refine ⟨⟨k + 1, .slice av nv cv, es ++ [(⟨a', r.length, c', r⟩, S)], by omega, by go_num, ?_, (HL5.out.ext hwz).only (by omega) hOg, hide (fun e he => ?_), hide ?_, (HK5.out.ext hwz hsz5).grown hOg (Nat.le_trans hsz5 hwz.size) (fun b hb => .inl (by injection hb with hb; omega)), hsz6, Only.ext (hE5.trans hwz) hOg hgc⟩, by simp [intOf]; omega⟩
            · refine ((HB5.out.ext hwz).set 1 (by omega) _).congr (fun o ho => ?_)
              match o, ho with
              | 0, _ => rfl
              | 1, _ => rfl
            · rcases List.mem_append.1 he with he | he
              · exact HUS.out e he
              · rw [List.mem_singleton] at he
                subst he
                exact ⟨k, HU.out.symm, HR.out⟩
            · rw [HST.out, ← HES.out]
              simp [vtsOf]
          · rw [if_neg hp, List.append_nil, ← HES.out] at hstep
            have HST := hide hstep.symm
            generalize cntV vs r = S at s1 s2 d1 hp
            clear hstep
            go_wp2
            exact ⟨⟨k + 1, v, es, by omega, by go_num, HB.out, HL.out, HUS, HST, hKp, hSr, hwr⟩, by simp [intOf]; omega⟩
        · have hM : vtsOf es = mrgV n vs := by rw [HMV.out, HES.out, List.take_of_length_le (by omega)]
          have hlen : es.length = (mrgV n vs).length := by rw [← hM]; unfold vtsOf; rw [List.length_map]
          obtain ⟨av, cv, rfl, hcv⟩ : ∃ av cv, v = .slice av (mrgV n vs).length cv ∧ (mrgV n vs).length ≤ cv := by
            rcases hl.val with ⟨h, h2⟩ | ⟨g9, c9, h, hc9, _⟩
            · rw [h2] at hlen
              rw [h, ← hlen]
              exact ⟨_, _, rfl, Nat.zero_le _⟩
            · rw [h, ← hlen]
              exact ⟨_, _, rfl, hc9⟩
          have hrd : ∀ W', Only (w.heap.size + 1) wr W' → RdV W' av (mrgV n vs) := fun W' hO => by
            rw [← hM]
            refine RowsV.rdA (hl.only (by omega) hO) (fun e he => ?_)
            obtain ⟨j, e1, e2⟩ := HUS.out e he
            have hj := lt_of_at e2
            have hrow := hMr.row j hj
            rw [show rows.getD j [] = e.1.xs by simp [List.getD, e2], ← e1] at hrow
            have hrow := hrow.only (g := w.heap.size + 1) (by omega) hO
            obtain ⟨a2, c2, hv2, hc2, _, hR2, _⟩ := hrow.val
            exact ⟨a2, c2, hv2, hc2, hR2⟩
          have HRD := hide hrd
          have HPK := hide (HOK.out wr av cv (hrd wr (Only.refl _ _)))
          have HCV := hide hcv
          have hp8 : w.heap.size ≤ w.heap.size + 1 := Nat.le_succ _
          have hEw := hww.trans hwr
          clear hl hB hM hlen hrd hcv hMr hKp
          go_wp2_with fail
          refine HPK.out.mono ?_
          rintro e w5 ⟨rfl, hw5⟩
          have p1 := P3.out.ext (hwr.trans hw5)
          have r0 := p1.cell 0 (by simp)
          have r1 := p1.cell 1 (by simp)
          have z0 := p1.fr 0
          have z1 := p1.fr 1
          have b0 := hw5.keep b0
          have b1 := hw5.keep b1
          have HRW := hide (fun W' (hO : Only (w.heap.size + 1) w5 W') => HRD.out W' ((Only.of_ext hw5).trans hO))
          have hE6 := hEw.trans hw5
          clear p1 HPK HRD hw5
          go_wp2
          have hO1 : Only (w.heap.size + 1) w5 ((w5.setCell ⟨w.heap.size + 1, 0, none⟩ (.int .i64 n)).setCell ⟨w.heap.size + 1, 1, none⟩ (.slice av (mrgV n vs).length cv)) := ((Only.refl _ w5).setCell 0 _).setCell 1 _
          refine bodyPost_ret (v := .tuple #[.agg #[.int .i64 n, .slice av (mrgV n vs).length cv], .bool true]) (by simp [results, Try.results8, go_sem, r0, r1]) rfl ⟨_, _, rfl, HRW.out _ hO1, HCV.out, Only.ext hE6 hO1 (by omega)⟩

set_option maxRecDepth 100000 in
set_option maxHeartbeats 4000000 in
theorem axis_impl (w : World) (n : Nat) (a : Option Addr) (c : Nat) (vs : List Vt) (hR : RdV w a vs) (h0 : profOk n vs = true) (ax0 : List Int) (hax : pkpB n ax0 vs = true) :
    Calls Try.prog 20 #[.agg #[.int .i64 n, .slice a vs.length c]] w fun e w' => ∃ ax aa ca, e = .returned (.tuple #[.slice aa n ca, .bool true]) ∧ RdI w' aa ax ∧ pkpB n ax vs = true ∧ n ≤ ca ∧ ax.length = n ∧ Ext w w' := by
  have q0 := new0 w (.int .i64 n) [.slice a vs.length c] 26
  have q1 := new1 w (.int .i64 n) (.slice a vs.length c) [] 26
  have hsz := prof_size h0
  have n1 : 1 ≤ n := by omega
  have n5 : n ≤ 5 := by omega
  have hin : ax0 ∈ allO n := by
    simp only [pkpB, Bool.and_eq_true] at hax
    exact (allO_mem n1 n5).2 hax.2.1
  have HIN := hide hin
  have HAX := hide hax
  have HPO : Hid (∀ W, Ext w W → Calls Try.prog 17 #[.agg #[.int .i64 n, .slice a vs.length c]] W fun e w' => e = .returned (.bool true) ∧ Ext W w') := hide (fun W hW => by
    have h := prof_impl W n a c vs (hR.ext hW)
    rw [h0] at h
    exact h)
  clear hin hax h0
  go_enter Try.func20, Try.ntmps20
  go_wp2_with (go_at_call 17; refine (HPO.out _ (by repeat (first | exact Ext.refl _ | assumption | refine Ext.alloc ?_ _ | refine Ext.drew ?_ | refine Ext.trans ?_ (by assumption)))).mono ?_; rintro e w1 ⟨rfl, hw1⟩; have q0 := Ext.keep (w' := w1) (by repeat (first | exact Ext.refl _ | assumption | refine Ext.alloc ?_ _ | refine Ext.drew ?_ | refine Ext.trans ?_ (by assumption))) q0; have q1 := Ext.keep (w' := w1) (by repeat (first | exact Ext.refl _ | assumption | refine Ext.alloc ?_ _ | refine Ext.drew ?_ | refine Ext.trans ?_ (by assumption))) q1)
  refine (allR_impl _ n n1 n5).mono ?_
  rintro e w2 ⟨v, rfl, hv, hw2⟩
  have hw : Ext w w2 := (by repeat (first | exact Ext.refl _ | assumption | refine Ext.alloc ?_ _ | refine Ext.drew ?_ | refine Ext.trans ?_ (by assumption)))
  replace q0 := hw2.keep q0
  replace q1 := hw2.keep q1
  have hR2 := hR.ext hw
  have HM : Hid (∀ r ∈ allO n, rkOk n r = true) := fun r hr => (allO_mem n1 n5).1 hr
  have hrl : (allO n).length ≤ 3125 := Nat.le_trans (allS_len n5 n []) (Nat.pow_le_pow_right (n := 5) (by decide) n5)
  generalize allO n = rows at hv HM HIN hrl
  have hv := hv.wr
  have hv' := hv
  obtain ⟨av, cv, rfl, hcv, hju⟩ := hv'
  clear hju hw1 hw2 HPO
  obtain ⟨wb, hwb⟩ : ∃ wb : World, wb = w2 := ⟨_, rfl⟩
  subst hwb
  go_wp2_with fail
  go_loopw [5, 13] (fun _ i wr => ∃ k : Nat, k ≤ rows.length ∧ i = .int .i64 k ∧ Hid ((rows.take k).all (fun r => !pkpB n r vs) = true) ∧ Ext wb wr) (fun _ i _ => rows.length - (intOf i).toNat)
  case atStart => exact ⟨0, Nat.zero_le _, rfl, rfl, Ext.refl _⟩
  case round =>
    obtain ⟨k, hk, rfl, hall, hwr⟩ := hrel
    by_cases hkt : k < rows.length
    · obtain ⟨r, hr⟩ := at_of_lt hkt
      obtain ⟨g, c3, a3, c4, hav, d0, hc4, hO⟩ := (hv.ext hwr).own hr
      injection hav with hav hav2 hav3
      subst hav
      subst hav3
      clear hav2
      have hrk := rk_len (HM.out r (List.mem_of_getElem? hr))
      have hr5 : r.length = n := by omega
      have HR := hide hr
      have r0 := hwr.keep q0
      have r1 := hwr.keep q1
      have hRr := hR2.ext hwr
      have hc := pkp_impl wr n a a3 c c4 vs r hRr hO.rdI hc4
      rw [hr5] at hc hc4 d0
      have HC := hide hc
      have HL := hide hr5
      have HO := hide hO.rdI
      clear hr hrk hc hr5 hO
      cases hm : pkpB n r vs
      · rw [hm] at HC
        go_wp2_with fail
        refine HC.out.mono ?_
        rintro e w3 ⟨rfl, hw3⟩
        go_wp2
        exact ⟨⟨k + 1, by omega, by go_num, (all_take HR.out hall.out).trans (by simp [hm]), hwr.trans hw3⟩, by simp [intOf]; omega⟩
      · rw [hm] at HC
        have HM2 := hide hm
        clear hm
        go_wp2_with fail
        refine HC.out.mono ?_
        rintro e w3 ⟨rfl, hw3⟩
        go_wp2
        go_ret2
        exact ⟨r, _, _, rfl, HO.out.ext hw3, HM2.out, hc4, HL.out, hw.trans (hwr.trans hw3)⟩
    · exfalso
      have h1 := List.all_eq_true.1 (all_whole (by omega) hall.out) ax0 HIN.out
      rw [HAX.out] at h1
      cases h1

set_option maxRecDepth 100000 in
set_option maxHeartbeats 1000000 in
theorem cpk_impl (w : World) (n : Nat) (n1 : 1 ≤ n) (n5 : n ≤ 5) :
    Calls Try.prog 23 #[.int .i64 n] w fun e w' => e = .returned (.int .i64 ((2 ^ (n - 1) : Nat) : Int)) ∧ Ext w w' := by
  have hp : 2 ^ (n - 1) ≤ 2 ^ 4 := Nat.pow_le_pow_right (by decide) (by omega)
  have hpn : ((2 : Int) ^ (n - 1)) = ((2 ^ (n - 1) : Nat) : Int) := by simp
  have Z1 : Hid (wrap64 ((2 : Int) ^ (n - 1)) = ((2 ^ (n - 1) : Nat) : Int)) := hide (by
    rw [hpn]
    generalize 2 ^ (n - 1) = N at hp ⊢
    exact IntWalk.wrap64_in _ (by omega))
  have hinr : inR (n : Int) 1 5 = true := inR_iff.2 (by omega)
  clear hp hpn
  go_enter Try.func23, Try.ntmps23
  go_wp2_with (go_at_call 50; refine (in_impl _ _ _ _).mono ?_; rintro e w1 ⟨rfl, hw1⟩)
  go_ret
  exact ⟨ret_int Z1.out, (by repeat (first | exact Ext.refl _ | assumption | refine Ext.alloc ?_ _ | refine Ext.drew ?_ | refine Ext.trans ?_ (by assumption)))⟩

set_option maxRecDepth 100000 in
set_option maxHeartbeats 4000000 in
theorem pkrI_impl (w : World) (n : Nat) (a : Option Addr) (c : Nat) (ax : List Int) (n1 : 1 ≤ n) (n5 : n ≤ 5) (hR : RdI w a ax) (ha : rkOk n ax = true) (hc : n ≤ c) :
    Calls Try.prog 21 #[.slice a n c] w fun e w' => ∃ v es, e = .returned v ∧ RowsE w' w.heap.size v es ∧ es.map RowE.xs = (allO n).filter (pkO ax) ∧ (∀ e ∈ es, e.n = e.xs.length ∧ e.n ≤ e.c ∧ RdI w' e.a e.xs) ∧ Ext w w' := by
  have hal : ax.length = n := by have := (rk_len ha).1; omega
  have HAL := hide hal
  have HI : Hid (∀ W, Ext w W → Calls Try.prog 54 #[.slice a n c] W fun e w' => e = .returned (.bool true) ∧ Ext W w') := hide (fun W hW => by
    have h := rank_impl W ax.length a c ax (hR.ext hW) (by omega)
    rw [show ((ax.length : Nat) : Int) = n by omega, ha, hal] at h
    have HH := hide h
    go_enter Try.func54, Try.ntmps54
    go_wp2_with (go_at_call 42; refine (HH.out).mono ?_; rintro e w1 ⟨rfl, hw1⟩)
    go_ret
    exact ⟨rfl, hw1⟩)
  have HPK : Hid (∀ W (r : List Int) a3 c3, Ext w W → rkOk n r = true → RdI W a3 r → r.length ≤ c3 → Calls Try.prog 29 #[.slice a3 r.length c3, .slice a n c] W fun e w' => e = .returned (.bool (pkO ax r)) ∧ Ext W w') := hide (fun W r a3 c3 hW hr hRr hc3 => by
    have h := pk_impl W a3 a c3 c n r ax hRr hc3 (hR.ext hW) (by omega) hr ha
    rw [hal] at h
    exact h)
  clear ha hal
  go_enter Try.func21, Try.ntmps21
  go_wp2_with (go_at_call 54; refine (HI.out _ (by repeat (first | exact Ext.refl _ | assumption | refine Ext.alloc ?_ _ | refine Ext.drew ?_ | refine Ext.trans ?_ (by assumption)))).mono ?_; rintro e w1 ⟨rfl, hw1⟩)
  refine (allR_impl _ n n1 n5).mono ?_
  rintro e w2 ⟨v, rfl, hv, hw2⟩
  have hw : Ext w w2 := (by repeat (first | exact Ext.refl _ | assumption | refine Ext.alloc ?_ _ | refine Ext.drew ?_ | refine Ext.trans ?_ (by assumption)))
  have HM : Hid (∀ r ∈ allO n, rkOk n r = true) := fun r hr => (allO_mem n1 n5).1 hr
  have hrl : (allO n).length ≤ 3125 := Nat.le_trans (allS_len n5 n []) (Nat.pow_le_pow_right (n := 5) (by decide) n5)
  obtain ⟨rows, hrows⟩ : ∃ rows, rows = allO n := ⟨_, rfl⟩
  rw [← hrows] at hv HM hrl
  have HRW := hide hrows
  clear hrows
  have hv := hv.wr
  have hv' := hv
  obtain ⟨av, cv, rfl, hcv, hju⟩ := hv'
  have hws : w.heap.size ≤ w2.heap.size := hw.size
  clear hju hw1 hw2 HI
  obtain ⟨wb, hwb⟩ : ∃ wb : World, wb = w2 := ⟨_, rfl⟩
  subst hwb
  go_wp2_with fail
  go_loopw [3, 5, 13] (fun v _ i wr => ∃ (k : Nat) (es : List RowE), k ≤ rows.length ∧ i = .int .i64 k ∧ RowsE wr wb.heap.size v es ∧ Hid (es.map RowE.xs = (rows.take k).filter (pkO ax)) ∧ Hid (∀ e ∈ es, e.n = e.xs.length ∧ e.n ≤ e.c ∧ RdI wb e.a e.xs) ∧ Ext wb wr) (fun _ _ i _ => rows.length - (intOf i).toNat)
  case atStart => exact ⟨0, [], Nat.zero_le _, rfl, RowsE.nil _ _, hide rfl, hide (fun e he => by simp at he), Ext.refl _⟩
  case round =>
    obtain ⟨k, es, hk, rfl, hown, HES, HRD, hwr⟩ := hrel
    by_cases hkt : k < rows.length
    · obtain ⟨r, hr⟩ := at_of_lt hkt
      obtain ⟨g, c3, a3, c4, hav, d0, hc4, hO⟩ := hv.own hr
      have hrk := HM.out r (List.mem_of_getElem? hr)
      have hRr := hO.rdI
      injection hav with hav hav2 hav3
      subst hav
      subst hav3
      clear hav2 hO
      replace d0 := hwr.keep d0
      have HC := hide (HPK.out wr r a3 c4 (hw.trans hwr) hrk (hRr.ext hwr) hc4)
      have hel : es.length ≤ k := by
        have h1 := congrArg List.length HES.out
        have h2 := List.length_filter_le (pkO ax) (rows.take k)
        rw [List.length_map] at h1
        rw [List.length_take] at h2
        omega
      have HST : Hid ((rows.take (k + 1)).filter (pkO ax) = (rows.take k).filter (pkO ax) ++ if pkO ax r then [r] else []) := hide (by
        rw [take_at hr, List.filter_append, List.filter_cons, List.filter_nil])
      have HR := hide hRr
      have HC4 := hide hc4
      have HOW := hide hown
      clear hr hrk hRr hown
      cases hm : pkO ax r
      · rw [hm] at HC HST
        go_wp2_with fail
        refine HC.out.mono ?_
        rintro e w3 ⟨rfl, hw3⟩
        go_wp2
        exact ⟨⟨k + 1, es, by omega, by go_num, HOW.out.ext hw3, hide (by rw [HST.out, HES.out]; simp), HRD, hwr.trans hw3⟩, by simp [intOf]; omega⟩
      · rw [hm] at HC HST
        clear hm
        go_wp2_with fail
        refine HC.out.mono ?_
        rintro e w3 ⟨rfl, hw3⟩
        go_wp2_with (at_builtin; go_loud (refine wpList_oneE wb.heap.size w3 rfl (.tmp 20) (.tmp 22) rfl _ es ⟨a3, r.length, c4, r⟩ rfl (by exact HOW.out.ext hw3) (Ext.size (hwr.trans hw3)) _ rfl rfl (by omega) ?_); intro v' w5 hown5 hg5)
        exact ⟨⟨k + 1, es ++ [⟨a3, r.length, c4, r⟩], by omega, by go_num, hown5, hide (by rw [HST.out, ← HES.out]; simp), hide (fun e he => by
          rcases List.mem_append.1 he with he | he
          · exact HRD.out e he
          · rw [List.mem_singleton] at he
            subst he
            exact ⟨rfl, HC4.out, HR.out⟩), (hwr.trans hw3).grown hg5 (fun b hb => (World.ownsRow.lt (HOW.out.ext hw3) b hb).1)⟩, by simp [intOf]; omega⟩
    · have hkr : rows.take k = rows := List.take_of_length_le (by omega)
      rw [hkr] at HES
      clear hkr
      go_wp2
      go_ret
      exact ⟨_, es, rfl, hown.base hws, (by rw [← HRW.out]; exact HES.out), fun e he => ⟨(HRD.out e he).1, (HRD.out e he).2.1, (HRD.out e he).2.2.ext hwr⟩, hw.trans hwr⟩

end Go.Proofs.Ytkbbcglghfddjaa
