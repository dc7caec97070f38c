/- Merged profiles, of the program. Votes in memory: parts of a list, votes that are copied as they are, and a ranking that is replaced. -/
import Derived.Test.YtkbbcglghfddjaaCf20
import Derived.Test.YtkbbcglghfddjaaCf18
import Derived.Test.YtkbbcglghfddjaaCf7
import Derived.Test.YtkbbcglghfddjaaCf13
import Derived.Test.YtkbbcglghfddjaaCf11
namespace Go.Proofs.Ytkbbcglghfddjaa
open Go.RowKit

set_option maxRecDepth 100000 in
theorem rn_at {xss : List (List Int)} {r : List Int} (hn : xss.Nodup) {k : Nat} (hk : xss[k]? = some r) : findI (fun x => decide (x = r)) xss = k := by
  refine findI_some hk ?_ (by simp)
  rw [List.all_eq_true]
  intro x hx
  obtain ⟨j, hj⟩ := List.mem_iff_getElem?.1 hx
  have hjk : j < k := by have := lt_of_at hj; rw [List.length_take] at this; omega
  rw [List.getElem?_take_of_lt hjk] at hj
  have l1 := lt_of_at hj
  have l2 := lt_of_at hk
  rw [List.getElem?_eq_getElem l1] at hj
  rw [List.getElem?_eq_getElem l2] at hk
  injection hj with hj
  injection hk with hk
  have := List.pairwise_iff_getElem.1 hn j k l1 l2 hjk
  rw [hj, hk] at this
  simpa using this

set_option maxRecDepth 100000 in
set_option maxHeartbeats 1000000 in
theorem rnum_one (w : World) (g : Nat) (a1 a2 : Option Addr) (c1 c2 : Nat) (xs ys : List Int) (h : w.cell? ⟨g, 0, none⟩ = some (.slice a2 ys.length c2)) (hX : RdI w a1 xs) (hY : RdI w a2 ys) (hl : xs.length ≤ 2000000) :
    Calls Try.prog 70 (#[] ++ (#[.slice a1 xs.length c1] ++ #[.pointer (some ⟨g, 0, none⟩)])) w fun e w' => e = .returned (.bool (decide (xs = ys))) ∧ Ext w w' := by
  show Calls Try.prog 70 #[.slice a1 xs.length c1, .pointer (some ⟨g, 0, none⟩)] w _
  go_enter Try.func70, Try.ntmps70
  go_wp2_with (go_at_call 71; refine (equ_impl _ _ _ _ _ _ _ (hX.ext (by repeat (first | exact Ext.refl _ | assumption | refine Ext.alloc ?_ _ | refine Ext.drew ?_ | refine Ext.trans ?_ (by assumption)))) (hY.ext (by repeat (first | exact Ext.refl _ | assumption | refine Ext.alloc ?_ _ | refine Ext.drew ?_ | refine Ext.trans ?_ (by assumption)))) hl).mono ?_; rintro e w1 ⟨rfl, hw1⟩)
  go_ret
  exact ⟨rfl, (by repeat (first | exact Ext.refl _ | assumption | refine Ext.alloc ?_ _ | refine Ext.drew ?_ | refine Ext.trans ?_ (by assumption)))⟩

set_option maxRecDepth 100000 in
set_option maxHeartbeats 2000000 in
theorem rnum_impl (w : World) (n : Nat) (a : Option Addr) (c : Nat) (xs : List Int) (n1 : 1 ≤ n) (n5 : n ≤ 5) (hR : RdI w a xs) (hx : rkOk n xs = true) (k : Nat) (hk : (allO n)[k]? = some xs) :
    Calls Try.prog 38 #[.slice a xs.length c] w fun e w' => e = .returned (.int .i64 k) ∧ Ext w w' := by
  have hl := (rk_len hx).1
  have q0 := new0 w (.slice a xs.length c) [] 31
  have HA : Hid (∀ W, Calls Try.prog 37 #[.int .i64 (xs.length : Nat)] W fun e w' => ∃ v, e = .returned v ∧ OwnSS w' W.heap.size v (allO n) ∧ Ext W w') := hide (fun W => by
    have := allR_impl W n n1 n5
    rw [show (xs.length : Nat) = n by omega]
    exact this)
  have hnd := allO_nodup n5
  have hal := allO_len n5
  have HF := hide (rn_at hnd hk)
  have h5 : xs.length ≤ 2000000 := by omega
  have HM : Hid (∀ ys ∈ allO n, ys.length ≤ 2000000) := hide (fun ys hy => by have := (rk_len ((allO_mem n1 n5).1 hy)).2; omega)
  generalize allO n = rows at HA hal HF HM
  clear hx hnd hk hl
  go_enter Try.func38, Try.ntmps38
  go_wp2_with fail
  refine (HA.out _).mono ?_
  rintro e w1 ⟨v, rfl, hv, hw1⟩
  have hE : Ext w w1 := (by repeat (first | exact Ext.refl _ | assumption | refine Ext.alloc ?_ _ | refine Ext.drew ?_ | refine Ext.trans ?_ (by assumption)))
  have q0 := Ext.keep (w' := w1) (by repeat (first | exact Ext.refl _ | assumption | refine Ext.alloc ?_ _ | refine Ext.drew ?_ | refine Ext.trans ?_ (by assumption))) q0
  have hv := hv.wr.rd
  have hv' := hv
  obtain ⟨av, cv, rfl, _⟩ := hv'
  have HI := hide (indexFuncR 70 #[] #[.pointer (some ⟨w.heap.size, 0, none⟩)] (fun x => decide (x = xs)) w1 _ av cv rows hv (by omega) Try.call70
    (fun ys a' c' w' hy hRy hw' => rnum_one w' w.heap.size a' a c' c ys xs (hw'.keep q0) hRy (hR.ext (hE.trans hw')) (HM.out ys hy)))
  clear hv
  go_wp2_with fail
  refine HI.out.mono ?_
  rintro e w2 ⟨rfl, hw2⟩
  rw [HF.out]
  go_wp2
  go_ret
  exact ⟨rfl, hE.trans hw2⟩

set_option maxRecDepth 100000 in
/-- The counts after some votes. -/
theorem cnt_step {rows : List (List Int)} (hn : rows.Nodup) {vs : List Vt} {k i : Nat} {x : Vt} (hx : vs[k]? = some x) (hi : rows[i]? = some x.1) : (rows.map (cntV (vs.take k))).set i (cntV (vs.take k) x.1 + x.2) = rows.map (cntV (vs.take (k + 1))) := by
  have hs : ∀ r, cntV (vs.take (k + 1)) r = cntV (vs.take k) r + if x.1 == r then x.2 else 0 := fun r => by
    unfold cntV
    rw [sumV_at hx]
  refine List.ext_getElem? (fun j => ?_)
  rw [List.getElem?_set, List.getElem?_map]
  by_cases e : i = j
  · subst e
    rw [if_pos rfl, if_pos (by rw [List.length_map]; exact lt_of_at hi), List.getElem?_map, hi, Option.map_some, hs]
    simp
  · rw [if_neg e, List.getElem?_map]
    cases hj : rows[j]? with
    | none => rfl
    | some r =>
      have hne : (x.1 == r) = false := by
        rw [beq_eq_false_iff_ne]
        rintro rfl
        have l1 := lt_of_at hi
        have l2 := lt_of_at hj
        rw [List.getElem?_eq_getElem l1] at hi
        rw [List.getElem?_eq_getElem l2] at hj
        injection hi with hi
        injection hj with hj
        rcases Nat.lt_or_ge i j with h | h
        · have := List.pairwise_iff_getElem.1 hn i j l1 l2 h
          rw [hi, hj] at this
          exact this rfl
        · have := List.pairwise_iff_getElem.1 hn j i l2 l1 (by omega)
          rw [hi, hj] at this
          exact this rfl
      rw [Option.map_some, Option.map_some, hs, hne]
      simp
/-- The merged votes of the first rankings. -/
def mrgL (f : List Int → Int) (rows : List (List Int)) : List Vt := (rows.map (fun r => (r, f r))).filter (fun x => decide (0 < x.2))
set_option maxRecDepth 100000 in
theorem mrgL_step {f : List Int → Int} {rows : List (List Int)} {k : Nat} {r : List Int} (h : rows[k]? = some r) : mrgL f (rows.take (k + 1)) = mrgL f (rows.take k) ++ if 0 < f r then [(r, f r)] else [] := by
  unfold mrgL
  rw [take_at h, List.map_append, List.filter_append, List.map_cons, List.map_nil, List.filter_cons, List.filter_nil]
  by_cases hp : 0 < f r
  · rw [if_pos (decide_eq_true hp), if_pos hp]
  · rw [if_neg (by simpa using hp), if_neg hp]
set_option maxRecDepth 100000 in
theorem mrgL_len (f : List Int → Int) (rows : List (List Int)) : (mrgL f rows).length ≤ rows.length := by
  unfold mrgL
  refine Nat.le_trans (List.length_filter_le _ _) ?_
  rw [List.length_map]
  exact Nat.le_refl _
set_option maxRecDepth 100000 in
theorem RowsV.only {w w' : World} {B g : Nat} {v : Value} {es : List (RowE × Int)} (h : RowsV w B v es) (hg : g < B) (hw : Only g w w') : RowsV w' B v es := by
  refine World.ownsRow.kept h hw ?_
  cases hv : v.ownBlock with
  | none => exact .inl rfl
  | some k =>
    refine .inr (fun e => ?_)
    injection e with e
    have := (World.ownsRow.lt h k hv).1
    omega
set_option maxRecDepth 100000 in
/-- Votes whose rankings lie anywhere. -/
theorem RowsV.rdA {w : World} {B : Nat} {a : Option Addr} {n c : Nat} {es : List (RowE × Int)} (h : RowsV w B (.slice a n c) es) (hf : ∀ e ∈ es, ∃ a2 c2, rowV e.1 = .slice a2 e.1.xs.length c2 ∧ e.1.xs.length ≤ c2 ∧ RdI w a2 e.1.xs) : RdV w a (vtsOf es) := fun hne => by
  have hne' : es ≠ [] := fun e => hne (by rw [e]; rfl)
  rcases h.val with ⟨_, he⟩ | ⟨g, c', hv, hc, hg, hB⟩
  · exact absurd he hne'
  · injection hv with h1 h2 h3
    subst h1
    refine ⟨g, 0, rfl, fun j x hx => ?_⟩
    unfold vtsOf at hx
    rw [List.getElem?_map, Option.map_eq_some_iff] at hx
    obtain ⟨e, he, rfl⟩ := hx
    have hl := lt_of_at he
    obtain ⟨c0, c1⟩ := vtL_at he
    obtain ⟨a2, c2, hv2, hc2, hR2⟩ := hf e (List.mem_of_getElem? he)
    unfold rowV at hv2
    injection hv2 with e1 e2 e3
    refine ⟨e.1.a, e.1.c, ?_, ?_, by rw [e3]; exact hc2, by rw [e1]; exact hR2⟩
    · rw [Nat.zero_add, hB.cell _ (by omega), ← e2]
      simp [List.getD, c0, rowV]
    · rw [Nat.zero_add, hB.cell _ (by omega)]
      simp [List.getD, c1]

set_option maxRecDepth 100000 in
set_option maxHeartbeats 8000000 in
theorem mrg_impl (w : World) (n : Nat) (a : Option Addr) (c : Nat) (vs : List Vt) (hR : RdV w a vs) (h0 : profOk n vs = true) (hv : allV vs ≤ 1000) :
    Calls Try.prog 8 #[.agg #[.int .i64 n, .slice a vs.length c]] w fun e w' => ∃ a' c', e = .returned (.tuple #[.agg #[.int .i64 n, .slice a' (mrgV n vs).length c'], .bool true]) ∧ RdV w' a' (mrgV n vs) ∧ (mrgV n vs).length ≤ c' ∧ Ext w w' := by
  have hsz := prof_size h0
  have n1 : 1 ≤ n := by omega
  have n5 : n ≤ 5 := by omega
  have HS := hide (prof_small h0)
  have hvl := (prof_small h0).1
  have hm24 : (mrgV n vs).length ≤ 24 := Nat.le_trans (mrg_len h0) hvl
  have HOK : Hid (∀ W a' c', RdV W a' (mrgV n vs) → Calls Try.prog 17 #[.agg #[.int .i64 n, .slice a' (mrgV n vs).length c']] W fun e w' => e = .returned (.bool true) ∧ Ext W w') := hide (fun W a' c' h => by
    have := prof_impl W n a' c' _ h
    rw [mrg_ok h0 hv] at this
    exact this)
  have HND := hide (allO_nodup n5)
  have hal := allO_len n5
  have hpos : 0 < (allO n).length := by
    obtain ⟨r, hr⟩ := allO_ne n1 n5
    exact List.length_pos_of_mem hr
  have HMV : Hid (mrgV n vs = mrgL (cntV vs) (allO n)) := hide rfl
  have HRK : Hid (∀ x ∈ vs, ∃ i, (allO n)[i]? = some x.1) := hide (fun x hx => List.mem_iff_getElem?.1 ((allO_mem n1 n5).2 ((prof_small h0).2 x hx).1))
  have HA := hide (fun W => allR_impl W n n1 n5)
  have HRN := hide (fun (W : World) (x : Vt) (a' : Option Addr) (c' k : Nat) (hx : x ∈ vs) (hR' : RdI W a' x.1) (hk : (allO n)[k]? = some x.1) => rnum_impl W n a' c' x.1 n1 n5 hR' ((prof_small h0).2 x hx).1 k hk)
  have HC1 : Hid (∀ k, k ≤ vs.length → ∀ r, 0 ≤ cntV (vs.take k) r ∧ cntV (vs.take k) r ≤ 1000 * k) := hide (fun k hk r => sumV_bd (prof_small h0) k hk)
  have HC0 : Hid (∀ r, 0 ≤ cntV vs r ∧ cntV vs r ≤ 24000) := hide (fun r => sumV_bd' (prof_small h0))
  have hmg : Hid (profOk n vs = true) := h0
  obtain ⟨i0, hi, hz0, hz1, hz2⟩ := info_parts info_int
  generalize allO n = rows at HND hal hpos HMV HRK HA HRN
  have hmk := fun W => run_make_rowN (P := Try.prog) 31 3 i0 _ Try.underlying31 hi hz0 .i64 .i64 rows.length rows.length (Nat.le_refl _) (by rw [hz2]; omega) (by omega) W
  rw [hz1, Nat.mul_one] at hmk
  have q0 := new0 w (.int .i64 n) [.slice a vs.length c] 26
  have q1 := new1 w (.int .i64 n) (.slice a vs.length c) [] 26
  have p0 := BlkF.new (w.alloc (.cells #[.int .i64 n, .slice a vs.length c] 26)) #[.int .i64 0, .slice none 0 0] 26
  rw [show (w.alloc (.cells #[.int .i64 n, .slice a vs.length c] 26)).heap.size = w.heap.size + 1 by simp] at p0
  have HPO : Hid (∀ W, Ext w W → Calls Try.prog 17 #[.agg #[.int .i64 n, .slice a vs.length c]] W fun e w' => e = .returned (.bool true) ∧ Ext W w') := hide (fun W hW => by
    have := prof_impl W n a c vs (hR.ext hW)
    rw [h0] at this
    exact this)
  have P0 := hide p0
  clear p0 hsz h0 hv
  go_enter Try.func8, Try.ntmps8
  go_wp2_with (go_at_call 17; refine (HPO.out _ (by repeat (first | exact Ext.refl _ | assumption | refine Ext.alloc ?_ _ | refine Ext.drew ?_ | refine Ext.trans ?_ (by assumption)))).mono ?_; rintro e w1 ⟨rfl, hw1⟩; have q0 := Ext.keep (w' := w1) (by repeat (first | exact Ext.refl _ | assumption | refine Ext.alloc ?_ _ | refine Ext.drew ?_ | refine Ext.trans ?_ (by assumption))) q0; have q1 := Ext.keep (w' := w1) (by repeat (first | exact Ext.refl _ | assumption | refine Ext.alloc ?_ _ | refine Ext.drew ?_ | refine Ext.trans ?_ (by assumption))) q1)
  have P1 := hide (P0.out.ext hw1)
  refine (HA.out _).mono ?_
  rintro e w2 ⟨v2, rfl, hv2, hw2⟩
  obtain ⟨av2, cv2, rfl, _⟩ := hv2.wr
  have hw : Ext w w2 := (by repeat (first | exact Ext.refl _ | assumption | refine Ext.alloc ?_ _ | refine Ext.drew ?_ | refine Ext.trans ?_ (by assumption)))
  have q0 := hw2.keep q0
  have q1 := hw2.keep q1
  have P2 := hide (P1.out.ext hw2)
  clear P0 P1 hv2 hw1 hw2
  go_wp2_with fail
  clear hmk
  have hO := OwnI.made w2 rows.length (by omega)
  have hE := Ext.new w2 (.cells (madeCells #[.int .i64 0] rows.length) 3)
  have hp2 := P2.out.lt
  obtain ⟨wo, hwo⟩ : ∃ wo : World, wo = w2 := ⟨_, rfl⟩
  subst hwo
  generalize wo.alloc (.cells (madeCells #[.int .i64 0] rows.length) 3) = W1 at hO hE ⊢
  go_loopw [6, 22] (fun _ i wr => ∃ k : Nat, k ≤ vs.length ∧ i = .int .i64 k ∧ OwnI wr wo.heap.size (.slice (some ⟨wo.heap.size, 0, none⟩) rows.length rows.length) (rows.map (cntV (vs.take k))) ∧ Ext wo wr) (fun _ i _ => vs.length - (intOf i).toNat)
  case atStart =>
    refine ⟨0, Nat.zero_le _, rfl, ?_, hE⟩
    have e : rows.map (cntV (vs.take 0)) = rowL rows.length (fun _ => 0) := by
      unfold rowL
      refine List.ext_getElem? (fun j => ?_)
      by_cases hj : j < rows.length
      · rw [List.getElem?_map, List.getElem?_eq_getElem hj, List.getElem?_map, List.getElem?_range hj]
        rfl
      · rw [List.getElem?_eq_none (by rw [List.length_map]; omega), List.getElem?_eq_none (by rw [List.length_map, List.length_range]; omega)]
    rw [e]
    exact hO
  case round =>
    clear hO hE
    obtain ⟨k, hk, rfl, hrow, hwr⟩ := hrel
    have hww := hw.trans hwr
    by_cases hlt : k < vs.length
    · obtain ⟨v, hx⟩ := at_of_lt hlt
      obtain ⟨b, off, a', c', rfl, c0, c1, hc', hRx⟩ := (hR.ext hww).at_ hx
      obtain ⟨x0, x1, x2⟩ := HS.out.2 v (List.mem_of_getElem? hx)
      obtain ⟨i, hi9⟩ := HRK.out v (List.mem_of_getElem? hx)
      have hil := lt_of_at hi9
      have hat : (rows.map (cntV (vs.take k)))[i]? = some (cntV (vs.take k) v.1) := by rw [List.getElem?_map, hi9]; rfl
      obtain ⟨s1, s2⟩ := HC1.out k hk v.1
      obtain ⟨d0, z0, hst⟩ := hrow.storeAt hat
      have HST : Hid (rows.map (cntV (vs.take (k + 1))) = (rows.map (cntV (vs.take k))).set i (cntV (vs.take k) v.1 + v.2)) := hide (cnt_step HND.out hx hi9).symm
      have HN := hide (fun (W : World) (hW : Ext wr W) => HRN.out W v a' c' i (List.mem_of_getElem? hx) (hRx.ext hW) hi9)
      have HROW := hide hrow
      have HAT := hide hat
      have y2 : IntKind.i64.wrap (cntV (vs.take k) v.1 + v.2) = cntV (vs.take k) v.1 + v.2 := by rw [IntWalk.i64_left, IntWalk.wrap64_in _ (by omega)]
      have e0 := new0 wr (.slice a' v.1.length c') [.int .i64 v.2] 59
      have e1 := new1 wr (.slice a' v.1.length c') (.int .i64 v.2) [] 59
      clear hx hi9 hat hst hrow x0
      generalize cntV (vs.take k) v.1 = S at s1 s2 d0 HST HAT y2
      go_wp2
      refine wp_region_P [0,1,2,6,7,3,4,5,8,9,10] (by kernel_rfl) rfl (by kernel_rfl) ?_
      repeat' (refine wpP_stepQ rfl (fun K hK => ?_)
               go_simp
               try (rw [if_neg (by intro h; simp [undef] at h)])
               try split
               all_goals
                 first
                 | (refine hK _ ?_
                    clear hK K)
                 | (apply Exists.intro
                    refine ⟨fun wq hwq => ?_, hK _ ?_⟩
                    · have hcq := hwq.cellS
                      go_simp
                      first
                      | exact ⟨Ext.refl _, rfl⟩
                    clear hK K))
      refine wpP_stepS rfl (by kernel_rfl) (fun K hK wq hwq => ?_)
      go_simp
      refine (HN.out _ (by repeat (first | exact Ext.refl _ | assumption | refine Ext.alloc ?_ _ | refine Ext.drew ?_ | refine Ext.trans ?_ (by assumption)))).mono ?_
      rintro e w3 ⟨rfl, hw3⟩
      refine ⟨hw3, hK _ _ ?_⟩
      clear hK K
      have hE3 : Ext wr w3 := (by repeat (first | exact Ext.refl _ | assumption | refine Ext.alloc ?_ _ | refine Ext.drew ?_ | refine Ext.trans ?_ (by assumption)))
      have d1 := hE3.keep d0
      have z1 : w3.frozen? ⟨wo.heap.size, i, none⟩ = false := (hE3.frozenS _ (by rw [d0]; rfl)).trans z0
      clear d0 z0
      repeat' (refine wpP_stepQ rfl (fun K hK => ?_)
               go_simp
               try (rw [if_neg (by intro h; simp [undef] at h)])
               try split
               all_goals
                 first
                 | (refine hK _ ?_
                    clear hK K)
                 | (apply Exists.intro
                    refine ⟨fun wq hwq => ?_, hK _ ?_⟩
                    · have hcq := hwq.cellS
                      go_simp
                      first
                      | exact ⟨Ext.refl _, rfl⟩
                    clear hK K))
      refine wpP_stepL rfl (by kernel_rfl) (by kernel_rfl) (by kernel_rfl) (fun K hK wz hwz => ?_)
      have hcz := hwz.cellS
      have hfz := hwz.frozenS
      go_simp
      refine hK _ _ ?_
      clear hK K
      go_wp2
      have hE4 : Ext wr wz := (by repeat (first | exact Ext.refl _ | assumption | refine Ext.alloc ?_ _ | refine Ext.drew ?_ | refine Ext.trans ?_ (by assumption)))
      have hst := ((HROW.out.ext hE4).storeAt HAT.out).2.2 (S + v.2)
      rw [← HST.out] at hst
      exact ⟨⟨k + 1, by omega, by go_num, hst, Ext.setCell (hwr.trans hE4) (Nat.le_refl _) _⟩, by simp [intOf]; omega⟩
    · have hkn : vs.take k = vs := List.take_of_length_le (by omega)
      rw [hkn] at hrow
      have HROW := hide hrow
      have q0 := hwr.keep q0
      have q1 := hwr.keep q1
      have P3 := hide (P2.out.ext hwr)
      have hcn : wo.heap.size < wr.heap.size := (World.ownsRow.lt hrow wo.heap.size rfl).2
      clear hkn hrow hw P2 hR HRK HRN HC1 HPO HND
      obtain ⟨wc, hwc⟩ : ∃ wc : World, wc = wr := ⟨_, rfl⟩
      subst hwc
      have hB := (BlkF.new wc #[.int .i64 n, .slice none 0 0] 26).congr (f' := boxF n (.slice none 0 0)) (fun o ho => by
        match o, ho with
        | 0, _ => rfl
        | 1, _ => rfl)
      have hE0 := Ext.new wc (.cells #[.int .i64 n, .slice none 0 0] 26)
      have hs0 : (wc.alloc (.cells #[.int .i64 n, .slice none 0 0] 26)).heap.size = wc.heap.size + 1 := by simp
      have hB := hB.congr (f' := boxF n (.slice none 0 0)) (fun _ _ => rfl)
      go_wp2_with fail
      obtain ⟨g, hg⟩ : ∃ g : Nat, g = wc.heap.size := ⟨_, rfl⟩
      generalize wc.alloc (.cells #[.int .i64 n, .slice none 0 0] 26) = W0 at hB hE0 hs0 ⊢
      rw [← hg] at hB hs0 ⊢
      refine (HA.out _).mono ?_
      rintro e w4 ⟨v4, rfl, hv4, hw4⟩
      have hv4 := hv4.wr
      obtain ⟨av4, cv4, rfl, _, hm4⟩ := hv4
      obtain ⟨gq, us, rfl, hMat⟩ := hm4 (List.ne_nil_of_length_pos hpos)
      have hB := hB.ext hw4
      have hE4 : Ext wc w4 := hE0.trans hw4
      have hgc : wc.heap.size ≤ g := by omega
      have hcg : wo.heap.size < g := by omega
      have hsg : g + 1 ≤ W0.heap.size := by omega
      obtain ⟨S0, hS0⟩ : ∃ S0 : Nat, S0 = W0.heap.size := ⟨_, rfl⟩
      obtain ⟨S4, hS4⟩ : ∃ S4 : Nat, S4 = w4.heap.size := ⟨_, rfl⟩
      rw [← hS0] at hMat hsg
      have hS04 : S0 ≤ S4 := by rw [hS0, hS4]; exact hw4.size
      have hS4' : S4 ≤ w4.heap.size := by omega
      have hS4'' : w4.heap.size ≤ S4 := by omega
      clear hS0 hs0 hE0 hw4 hm4 hg
      have q0 := hE4.keep q0
      have q1 := hE4.keep q1
      obtain ⟨wd, hwd⟩ : ∃ wd : World, wd = w4 := ⟨_, rfl⟩
      subst hwd
      go_wp2_with fail
      go_loopw [8, 9, 44] (fun _ _ i wr => ∃ (k : Nat) (v : Value) (es : List (RowE × Int)), k ≤ rows.length ∧ i = .int .i64 k ∧ BlkF wr g 2 (boxF n v) ∧ RowsV wr S4 v es ∧ Hid (∀ e ∈ es, ∃ j, rowV e.1 = us j ∧ rows[j]? = some e.1.xs) ∧ Hid (vtsOf es = mrgL (cntV vs) (rows.take k)) ∧ Keeps S0 S4 wd wr ∧ S4 ≤ wr.heap.size ∧ Ext wc wr) (fun _ _ i _ => rows.length - (intOf i).toNat)
      case atStart => exact ⟨0, _, [], Nat.zero_le _, rfl, hB, RowsV.nil _ _, hide (fun e he => by simp at he), hide rfl, Keeps.refl _ _ _, hS4', hE4⟩
      case round =>
        clear hB
        obtain ⟨k, v, es, hk, rfl, hB, hl, HUS, HES, hKp, hSr, hwr⟩ := hrel
        have hMr := hMat.keeps hKp hS4''
        have b0 := hB.cell 0 (by omega)
        have b1 := hB.cell 1 (by omega)
        rw [show boxF n v 0 = .int .i64 n from rfl] at b0
        rw [show boxF n v 1 = v from rfl] at b1
        by_cases hkt : k < rows.length
        · obtain ⟨r, hr⟩ := at_of_lt hkt
          have hrow := hMr.row k hkt
          rw [show rows.getD k [] = r by simp [List.getD, hr]] at hrow
          obtain ⟨a', c', hu, hc', _, hRr, _⟩ := hrow.val
          have d0 := hMr.outer.cell k hkt
          rw [hu] at d0
          have hat : (rows.map (cntV vs))[k]? = some (cntV vs r) := by rw [List.getElem?_map, hr]; rfl
          obtain ⟨d1, _, _⟩ := (HROW.out.ext hwr).storeAt hat
          have hstep := mrgL_step (f := cntV vs) hr
          obtain ⟨s1, s2⟩ := HC0.out r
          have hel : es.length ≤ k := by
            have h1 := congrArg List.length HES.out
            have h2 := mrgL_len (cntV vs) (rows.take k)
            unfold vtsOf at h1
            rw [List.length_map] at h1
            rw [List.length_take] at h2
            omega
          have HL := hide hl
          have HB := hide hB
          have HR := hide hr
          have HU := hide hu
          have HKP := hide hKp
          clear hl hB hr hu hrow hMr hRr hat
          by_cases hp : 0 < cntV vs r
          · rw [if_pos hp] at hstep
            have HST := hide hstep
            generalize cntV vs r = S at s1 s2 d1 HST hp
            clear hstep hKp
            go_wp2
            refine wp_region_P [0,1,2,3,4,5,6,7,8,9,10,11] (by kernel_rfl) rfl (by kernel_rfl) ?_
            repeat' (refine wpP_stepQ rfl (fun K hK => ?_)
                     go_simp
                     try (rw [if_neg (by intro h; simp [undef] at h)])
                     try split
                     all_goals
                       first
                       | (refine hK _ ?_
                          clear hK K)
                       | (apply Exists.intro
                          refine ⟨fun wq hwq => ?_, hK _ ?_⟩
                          · have hcq := hwq.cellS
                            go_simp
                            first
                            | exact ⟨Ext.refl _, rfl⟩
                          clear hK K))
            refine wpP_stepS rfl (by kernel_rfl) (fun K hK wq hwq => ?_)
            go_simp
            refine ⟨(by repeat (first | exact Ext.refl _ | assumption | refine Ext.alloc ?_ _ | refine Ext.drew ?_ | refine Ext.trans ?_ (by assumption))), hK _ _ ?_⟩
            clear hK K
            refine wpP_stepC rfl (by kernel_rfl) (fun K hK' wa hwa => ?_)
            refine Eq.mpr (if_pos rfl) ?_
            have hEa : Ext wr wa := (by repeat (first | exact Ext.refl _ | assumption | refine Ext.alloc ?_ _ | refine Ext.drew ?_ | refine Ext.trans ?_ (by assumption)))
            have hLa := HL.out.ext hEa
            refine oper_appV S4 wa _ _ rfl v es (⟨a', r.length, c', r⟩, S) _ rfl hLa (Nat.le_trans hSr hEa.size) rfl (hwa.keep (new0 wq _ _ _)) (hwa.keep (new1 wq _ _ _ _)) (by omega) ?_
            intro v' w5 hown5 hg5 hf5
            have hro : ∀ b, v.ownBlock = some b → S4 ≤ b := fun b hb => (World.ownsRow.lt HL.out b hb).1
            have hB5 := (HB.out.ext hEa).grown hg5 (fun b hb => by have := hro b hb; omega)
            have hE5 : Ext wc w5 := Ext.grown (hwr.trans hEa) hg5 (fun b hb => by have := hro b hb; omega)
            have hK5 := (HKP.out.ext hEa hSr).grown hg5 (Nat.le_trans hSr hEa.size) (fun b hb => .inr (hro b hb))
            have z1 := hB5.fr 1
            have d5 := hB5.cell 1 (by omega)
            rw [show boxF n v 1 = v from rfl] at d5
            have hsz5 := Nat.le_trans hSr (Nat.le_trans hEa.size hg5.size)
            obtain ⟨av, nv, cv, rfl⟩ : ∃ av nv cv, v' = .slice av nv cv := by
              rcases hown5.val with ⟨h, _⟩ | ⟨g9, c9, h, _⟩
              · exact ⟨_, _, _, h⟩
              · exact ⟨_, _, _, h⟩
            have HL5 := hide hown5
            have HB5 := hide hB5
            have HK5 := hide hK5
            clear hLa hro hown5 hg5 hf5 hB5 hEa hwa hwq b0 b1 hK5 d0 d1
            refine hK' _ _ ?_
            clear hK' K
            repeat' (refine wpP_stepQ rfl (fun K hK => ?_)
                     go_simp
                     try (rw [if_neg (by intro h; simp [undef] at h)])
                     try split
                     all_goals
                       first
                       | (refine hK _ ?_
                          clear hK K)
                       | (apply Exists.intro
                          refine ⟨fun wq hwq => ?_, hK _ ?_⟩
                          · have hcq := hwq.cellS
                            go_simp
                            first
                            | exact ⟨Ext.refl _, rfl⟩
                          clear hK K))
            refine wpP_stepL rfl (by kernel_rfl) (by kernel_rfl) (by kernel_rfl) (fun K hK wz hwz => ?_)
            have hcz := hwz.cellS
            have hfz := hwz.frozenS
            go_simp
            refine hK _ _ ?_
            clear hK K
            go_wp2
            have hOg : Only g wz (wz.setCell ⟨g, 1, none⟩ (.slice av nv cv)) := (Only.refl g wz).setCell 1 _
            have hsz6 := Nat.le_trans hsz5 (Nat.le_trans hwz.size hOg.size)
            refine ⟨⟨k + 1, .slice av nv cv, es ++ [(⟨a', r.length, c', r⟩, S)], by omega, by go_num, ?_, (HL5.out.ext hwz).only (by omega) hOg, hide (fun e he => ?_), hide ?_, (HK5.out.ext hwz hsz5).grown hOg (Nat.le_trans hsz5 hwz.size) (fun b hb => .inl (by injection hb with hb; omega)), hsz6, Only.ext (hE5.trans hwz) hOg hgc⟩, by simp [intOf]; omega⟩
            · refine ((HB5.out.ext hwz).set 1 (by omega) _).congr (fun o ho => ?_)
              match o, ho with
              | 0, _ => rfl
              | 1, _ => rfl
            · rcases List.mem_append.1 he with he | he
              · exact HUS.out e he
              · rw [List.mem_singleton] at he
                subst he
                exact ⟨k, HU.out.symm, HR.out⟩
            · rw [HST.out, ← HES.out]
              simp [vtsOf]
          · rw [if_neg hp, List.append_nil, ← HES.out] at hstep
            have HST := hide hstep.symm
            generalize cntV vs r = S at s1 s2 d1 hp
            clear hstep
            go_wp2
            exact ⟨⟨k + 1, v, es, by omega, by go_num, HB.out, HL.out, HUS, HST, hKp, hSr, hwr⟩, by simp [intOf]; omega⟩
        · have hM : vtsOf es = mrgV n vs := by rw [HMV.out, HES.out, List.take_of_length_le (by omega)]
          have hlen : es.length = (mrgV n vs).length := by rw [← hM]; unfold vtsOf; rw [List.length_map]
          obtain ⟨av, cv, rfl, hcv⟩ : ∃ av cv, v = .slice av (mrgV n vs).length cv ∧ (mrgV n vs).length ≤ cv := by
            rcases hl.val with ⟨h, h2⟩ | ⟨g9, c9, h, hc9, _⟩
            · rw [h2] at hlen
              rw [h, ← hlen]
              exact ⟨_, _, rfl, Nat.zero_le _⟩
            · rw [h, ← hlen]
              exact ⟨_, _, rfl, hc9⟩
          have hrd : ∀ W', Only (w.heap.size + 1) wr W' → RdV W' av (mrgV n vs) := fun W' hO => by
            rw [← hM]
            refine RowsV.rdA (hl.only (by omega) hO) (fun e he => ?_)
            obtain ⟨j, e1, e2⟩ := HUS.out e he
            have hj := lt_of_at e2
            have hrow := hMr.row j hj
            rw [show rows.getD j [] = e.1.xs by simp [List.getD, e2], ← e1] at hrow
            have hrow := hrow.only (g := w.heap.size + 1) (by omega) hO
            obtain ⟨a2, c2, hv2, hc2, _, hR2, _⟩ := hrow.val
            exact ⟨a2, c2, hv2, hc2, hR2⟩
          have HRD := hide hrd
          have HPK := hide (HOK.out wr av cv (hrd wr (Only.refl _ _)))
          have HCV := hide hcv
          have hp8 : w.heap.size ≤ w.heap.size + 1 := Nat.le_succ _
          have hEw := hww.trans hwr
          clear hl hB hM hlen hrd hcv hMr hKp
          go_wp2_with fail
          refine HPK.out.mono ?_
          rintro e w5 ⟨rfl, hw5⟩
          have p1 := P3.out.ext (hwr.trans hw5)
          have r0 := p1.cell 0 (by simp)
          have r1 := p1.cell 1 (by simp)
          have z0 := p1.fr 0
          have z1 := p1.fr 1
          have b0 := hw5.keep b0
          have b1 := hw5.keep b1
          have HRW := hide (fun W' (hO : Only (w.heap.size + 1) w5 W') => HRD.out W' ((Only.of_ext hw5).trans hO))
          have hE6 := hEw.trans hw5
          clear p1 HPK HRD hw5
          go_wp2
          have hO1 : Only (w.heap.size + 1) w5 ((w5.setCell ⟨w.heap.size + 1, 0, none⟩ (.int .i64 n)).setCell ⟨w.heap.size + 1, 1, none⟩ (.slice av (mrgV n vs).length cv)) := ((Only.refl _ w5).setCell 0 _).setCell 1 _
          refine bodyPost_ret (v := .tuple #[.agg #[.int .i64 n, .slice av (mrgV n vs).length cv], .bool true]) (by simp [results, Try.results8, go_sem, r0, r1]) rfl ⟨_, _, rfl, HRW.out _ hO1, HCV.out, Only.ext hE6 hO1 (by omega)⟩

set_option maxRecDepth 100000 in
theorem RdV.take {w : World} {a : Option Addr} {vs : List Vt} (h : RdV w a vs) (k : Nat) : RdV w a (vs.take k) := fun hne => by
  obtain ⟨b, off, ha, hj⟩ := h (fun e => hne (by rw [e]; simp))
  refine ⟨b, off, ha, fun j e he => ?_⟩
  rw [List.getElem?_take] at he
  split at he
  · exact hj j e he
  · cases he
set_option maxRecDepth 100000 in
theorem RdV.drop {w : World} {b off n : Nat} {vs : List Vt} (h : RdV w (some ⟨b, off, none⟩) vs) (k c : Nat) (hc : vs.length ≤ c) (hn : n = off + k * 2) : RdV w (if c = k then some ⟨b, off, none⟩ else some ⟨b, n, none⟩) (vs.drop k) := fun hne => by
  have hk : k < vs.length := by
    rcases Nat.lt_or_ge k vs.length with h | h
    · exact h
    · exact absurd (List.drop_eq_nil_of_le h) hne
  obtain ⟨b', off', e, hc'⟩ := h (fun e => by rw [e] at hk; simp at hk)
  injection e with e
  injection e with e1 e2
  subst e1 e2
  rw [if_neg (by omega)]
  subst hn
  refine ⟨b, off + k * 2, rfl, fun j x hx => ?_⟩
  rw [List.getElem?_drop] at hx
  have h1 := hc' (k + j) x hx
  rw [show off + (k + j) * 2 = off + k * 2 + j * 2 by omega] at h1
  exact h1
/-- The rankings of these votes are read where they lie. -/
def ReadE (w : World) (es : List (RowE × Int)) : Prop := ∀ e ∈ es, e.1.n = e.1.xs.length ∧ e.1.n ≤ e.1.c ∧ RdI w e.1.a e.1.xs
set_option maxRecDepth 100000 in
theorem ReadE.nil (w : World) : ReadE w [] := fun e he => by cases he
set_option maxRecDepth 100000 in
theorem ReadE.ext {w w' : World} {es : List (RowE × Int)} (h : ReadE w es) (hw : Ext w w') : ReadE w' es := fun e he => ⟨(h e he).1, (h e he).2.1, (h e he).2.2.ext hw⟩
set_option maxRecDepth 100000 in
theorem ReadE.app {w : World} {es fs : List (RowE × Int)} (h : ReadE w es) (h2 : ReadE w fs) : ReadE w (es ++ fs) := fun e he => by
  rcases List.mem_append.1 he with he | he
  · exact h e he
  · exact h2 e he
set_option maxRecDepth 100000 in
theorem ents_of {w : World} : ∀ (vs : List Vt) (b off : Nat), (∀ (j : Nat) (x : Vt), vs[j]? = some x → ∃ a' c', w.cell? ⟨b, off + j * 2, none⟩ = some (.slice a' x.1.length c') ∧ w.cell? ⟨b, off + j * 2 + 1, none⟩ = some (.int .i64 x.2) ∧ x.1.length ≤ c' ∧ RdI w a' x.1) →
    ∃ es : List (RowE × Int), vtsOf es = vs ∧ ReadE w es ∧ ∀ (j : Nat) (u : Value), (vtL es)[j]? = some u → w.cell? ⟨b, off + j, none⟩ = some u
  | [], b, off, _ => ⟨[], rfl, ReadE.nil w, fun j u h => by simp [vtL] at h⟩
  | x :: xs, b, off, h => by
    obtain ⟨a', c', h0, h1, h2, h3⟩ := h 0 x rfl
    obtain ⟨es, e1, e2, e3⟩ := ents_of xs b (off + 2) (fun j y hy => by
      have := h (j + 1) y (by simpa using hy)
      rw [show off + 2 + j * 2 = off + (j + 1) * 2 by omega]; exact this)
    refine ⟨(⟨a', x.1.length, c', x.1⟩, x.2) :: es, by rw [← e1]; rfl, fun e he => ?_, fun j u hj => ?_⟩
    · rcases List.mem_cons.1 he with rfl | he
      · exact ⟨rfl, h2, h3⟩
      · exact e2 e he
    · have e : vtL ((⟨a', x.1.length, c', x.1⟩, x.2) :: es) = .slice a' x.1.length c' :: .int .i64 x.2 :: vtL es := rfl
      rw [e] at hj
      match j, hj with
      | 0, hj => simp at hj; subst hj; simpa using h0
      | 1, hj => simp at hj; subst hj; simpa using h1
      | j + 2, hj =>
        have h4 := e3 j u (by simpa using hj)
        rw [show off + (j + 2) = off + 2 + j by omega]; exact h4
/-- A part of a list of votes as it lies in memory. -/
def LayV (w : World) (a : Option Addr) (es : List (RowE × Int)) : Prop := es ≠ [] → ∃ b off, a = some ⟨b, off, none⟩ ∧ ∀ (j : Nat) (u : Value), (vtL es)[j]? = some u → w.cell? ⟨b, off + j, none⟩ = some u
set_option maxRecDepth 100000 in
theorem LayV.ext {w w' : World} {a : Option Addr} {es : List (RowE × Int)} (h : LayV w a es) (hw : Ext w w') : LayV w' a es := fun hne => by
  obtain ⟨b, off, ha, hc⟩ := h hne
  exact ⟨b, off, ha, fun j u hj => hw.keep (hc j u hj)⟩
set_option maxRecDepth 100000 in
theorem RdV.ents {w : World} {a : Option Addr} {vs : List Vt} (h : RdV w a vs) : ∃ es : List (RowE × Int), vtsOf es = vs ∧ es.length = vs.length ∧ ReadE w es ∧ LayV w a es := by
  by_cases hne : vs = []
  · subst hne
    exact ⟨[], rfl, rfl, ReadE.nil w, fun h => absurd rfl h⟩
  · obtain ⟨b, off, rfl, hc⟩ := h hne
    obtain ⟨es, e1, e2, e3⟩ := ents_of vs b off hc
    exact ⟨es, e1, by rw [← e1]; unfold vtsOf; rw [List.length_map], e2, fun _ => ⟨b, off, rfl, e3⟩⟩
set_option maxRecDepth 100000 in
theorem RowsV.rdR {w : World} {B : Nat} {a : Option Addr} {n c : Nat} {es : List (RowE × Int)} (h : RowsV w B (.slice a n c) es) (hf : ReadE w es) : RdV w a (vtsOf es) := fun hne => by
  have hne' : es ≠ [] := fun e => hne (by rw [e]; rfl)
  rcases h.val with ⟨_, he⟩ | ⟨g, c', hv, hc, hg, hB⟩
  · exact absurd he hne'
  · injection hv with h1 h2 h3
    subst h1
    refine ⟨g, 0, rfl, fun j x hx => ?_⟩
    unfold vtsOf at hx
    rw [List.getElem?_map, Option.map_eq_some_iff] at hx
    obtain ⟨e, he, rfl⟩ := hx
    have hl := lt_of_at he
    obtain ⟨c0, c1⟩ := vtL_at he
    obtain ⟨r1, r2, r3⟩ := hf e (List.mem_of_getElem? he)
    refine ⟨e.1.a, e.1.c, ?_, ?_, by rw [← r1]; exact r2, r3⟩
    · rw [Nat.zero_add, hB.cell _ (by omega), ← r1]
      simp [List.getD, c0, rowV]
    · rw [Nat.zero_add, hB.cell _ (by omega)]
      simp [List.getD, c1]
set_option maxRecDepth 100000 in
theorem RowsV.lenEq {w : World} {B : Nat} {a : Option Addr} {n c : Nat} {es : List (RowE × Int)} (h : RowsV w B (.slice a n c) es) : n = es.length ∧ n ≤ c := by
  rcases h.val with ⟨hv, he⟩ | ⟨g, c', hv, hc, _, _⟩
  · injection hv with h1 h2 h3
    subst h2
    subst he
    exact ⟨rfl, by omega⟩
  · injection hv with h1 h2 h3
    exact ⟨h2, by omega⟩
set_option maxRecDepth 100000 in
theorem vtL_app (es fs : List (RowE × Int)) : vtL (es ++ fs) = vtL es ++ vtL fs := by simp [vtL]
set_option maxRecDepth 100000 in
theorem vtL_one (es : List (RowE × Int)) : ∀ u ∈ vtL es, u.oneCell' = true := by
  intro u hu
  unfold vtL at hu
  rw [List.mem_flatMap] at hu
  obtain ⟨e, _, he⟩ := hu
  simp at he
  rcases he with rfl | rfl <;> rfl
set_option maxRecDepth 100000 in
/-- A list of votes appended to a list of the call's own. -/
theorem wpList_appVs {ops : Array Oper} {rest : List Oper} {o : Oper} {a : Act} {Q : Exit → Act → World → Prop} (B : Nat) (w3 : World) (hgd : o.guard = none) (s x : Operand)
    (ho : o.op = .call { callee := .builtin .append, args := #[s, x], argTypes := #[24, 24] }) (v : Value) (es ys : List (RowE × Int)) (hs : a.eval s = v) (hown : RowsV w3 B v es) (hB : B ≤ w3.heap.size)
    (ax : Option Addr) (n c : Nat) (hn : n = ys.length) (hx : a.eval x = .slice ax n c) (hR : LayV w3 ax ys) (hlen : es.length + ys.length ≤ 100000)
    (h : ∀ v' w', RowsV w' B v' (es ++ ys) → w3.grownBy w' v.ownBlock → Fresh w3 v v' → wpList Try.prog ops Q rest (a.put o.dst v') w') : wpList Try.prog ops Q (o :: rest) a w3 := by
  obtain ⟨i0, hi, hz0, hz1, hz2⟩ := info_parts info_v
  subst hn
  obtain ⟨v', w', hr, h1, h2, h3⟩ := run_append_any (P := Try.prog) w3 B 24 o.type 59 i0 (.agg #[.slice none 0 0, .int .i64 0]) 2 32 Try.underlying24 hi hz0 hz1 hz2 rfl (by decide) v es.length _ hown ax ys.length c (vtL ys) (vtL_len ys)
    (fun hne => by
      obtain ⟨b, off, rfl, hc⟩ := hR (fun e => hne (by rw [e]; rfl))
      refine ⟨_, rfl, fun j u hj => ?_⟩
      have := hc j u hj
      by_cases hj0 : j = 0
      · subst hj0
        simpa [Addr.add] using this
      · simpa [Addr.add, hj0] using this)
    (vtL_one ys) (by unfold maxLen; omega) (by omega) hB
  refine wpList_plain hgd fun K hK => ?_
  unfold Oper.wp execOp
  simp only [ho, resolve, invoke, builtin, Sem.run_bind, Sem.run_pure, Result.andThen_ok, List.map_toArray, List.map_cons, List.map_nil, hs, hx, hr]
  refine hK _ _ (h v' w' ?_ h2 h3)
  unfold RowsV
  rw [vtL_app, List.length_append]
  exact h1
set_option maxRecDepth 100000 in
theorem RowsV.own {w : World} {B g n c : Nat} {es : List (RowE × Int)} (h : RowsV w B (.slice (some ⟨g, 0, none⟩) n c) es) : BlkF w g (es.length * 2) (fun o => (vtL es).getD o undef) := by
  rcases h.val with ⟨hv, _⟩ | ⟨g', c', hv, _, _, hB⟩
  · cases hv
  · injection hv with h1 h2 h3
    injection h1 with h1
    injection h1 with h1
    subst h1
    exact hB
/-- Votes that are read, all in blocks from B on. -/
def FrV (w : World) (B : Nat) (a : Option Addr) (vs : List Vt) : Prop :=
  vs ≠ [] → ∃ b off, a = some ⟨b, off, none⟩ ∧ B ≤ b ∧ ∀ (j : Nat) (x : Vt), vs[j]? = some x → ∃ a' c', w.cell? ⟨b, off + j * 2, none⟩ = some (.slice a' x.1.length c') ∧
    w.cell? ⟨b, off + j * 2 + 1, none⟩ = some (.int .i64 x.2) ∧ x.1.length ≤ c' ∧ RdI w a' x.1 ∧ (x.1 ≠ [] → ∀ b2 off2, a' = some ⟨b2, off2, none⟩ → B ≤ b2)
set_option maxRecDepth 100000 in
theorem FrV.rd {w : World} {B : Nat} {a : Option Addr} {vs : List Vt} (h : FrV w B a vs) : RdV w a vs := fun hne => by
  obtain ⟨b, off, ha, _, hc⟩ := h hne
  refine ⟨b, off, ha, fun j x hx => ?_⟩
  obtain ⟨a', c', h0, h1, h2, h3, _⟩ := hc j x hx
  exact ⟨a', c', h0, h1, h2, h3⟩
set_option maxRecDepth 100000 in
theorem FrV.ext {w w' : World} {B : Nat} {a : Option Addr} {vs : List Vt} (h : FrV w B a vs) (hw : Ext w w') : FrV w' B a vs := fun hne => by
  obtain ⟨b, off, ha, hb, hc⟩ := h hne
  refine ⟨b, off, ha, hb, fun j x hx => ?_⟩
  obtain ⟨a', c', h0, h1, h2, h3, h4⟩ := hc j x hx
  exact ⟨a', c', hw.keep h0, hw.keep h1, h2, h3.ext hw, h4⟩
set_option maxRecDepth 100000 in
theorem FrV.only {w w' : World} {B g : Nat} {a : Option Addr} {vs : List Vt} (h : FrV w B a vs) (hg : g < B) (hw : Only g w w') : FrV w' B a vs := fun hne => by
  obtain ⟨b, off, ha, hb, hc⟩ := h hne
  refine ⟨b, off, ha, hb, fun j x hx => ?_⟩
  obtain ⟨a', c', h0, h1, h2, h3, h4⟩ := hc j x hx
  refine ⟨a', c', hw.keep (by dsimp only; omega) h0, hw.keep (by dsimp only; omega) h1, h2, ?_, h4⟩
  by_cases hx0 : x.1 = []
  · rw [hx0]; exact RdI.nil _ _
  · exact hw.rdI h3 (fun b2 off2 e => by have := h4 hx0 b2 off2 e; omega)
set_option maxRecDepth 100000 in
/-- One ranking is replaced. -/
theorem LstV.setRd {w : World} {B g n c : Nat} {es : List (RowE × Int)} (h : LstV w B (.slice (some ⟨g, 0, none⟩) n c) es) {k : Nat} {e : RowE × Int} (hk : es[k]? = some e) {au : Option Addr} {nu cu : Nat} {us : List Int} (hu : RdI w au us) (hn : nu = us.length) (hc : nu ≤ cu) (hug : us ≠ [] → ∀ b off, au = some ⟨b, off, none⟩ → B ≤ b ∧ b ≠ g) :
    FrV (w.setCell ⟨g, k * 2, none⟩ (.slice au nu cu)) B (some ⟨g, 0, none⟩) ((vtsOf es).set k (us, e.2)) ∧ Only g w (w.setCell ⟨g, k * 2, none⟩ (.slice au nu cu)) := by
  have hB := h.1.own
  have hBg : B ≤ g := (World.ownsRow.lt h.1 g rfl).1
  have hkl := lt_of_at hk
  have hS := hB.set (k * 2) (by omega) (.slice au nu cu)
  have hO : Only g w (w.setCell ⟨g, k * 2, none⟩ (.slice au nu cu)) := (Only.refl g w).setCell _ _
  generalize w.setCell ⟨g, k * 2, none⟩ (.slice au nu cu) = w' at hS hO
  refine ⟨fun _ => ⟨g, 0, rfl, hBg, fun j x hx => ?_⟩, hO⟩
  rw [List.getElem?_set] at hx
  by_cases hjk : k = j
  · subst hjk
    have hl : k < (vtsOf es).length := by unfold vtsOf; rw [List.length_map]; exact hkl
    rw [if_pos rfl, if_pos hl] at hx
    injection hx with hx
    subst hx
    obtain ⟨_, c1⟩ := vtL_at hk
    refine ⟨au, cu, ?_, ?_, by dsimp only; omega, ?_, fun hne b2 off2 e => (hug hne b2 off2 e).1⟩
    · rw [Nat.zero_add, hS.cell _ (by omega)]; simp [hn]
    · rw [Nat.zero_add, hS.cell _ (by omega)]
      simp [List.getD, c1]
    · by_cases hne : us = []
      · dsimp only; rw [hne]; exact RdI.nil _ _
      · exact hO.rdI hu (fun b2 off2 e => (hug hne b2 off2 e).2)
  · rw [if_neg hjk] at hx
    unfold vtsOf at hx
    rw [List.getElem?_map, Option.map_eq_some_iff] at hx
    obtain ⟨f, hf, rfl⟩ := hx
    have hl := lt_of_at hf
    obtain ⟨c0, c1⟩ := vtL_at hf
    have hO2 := h.2.1 f.1 (List.mem_map_of_mem (List.mem_of_getElem? hf))
    obtain ⟨a2, c2, hv2, hc2, _, hR2, hb2⟩ := hO2.val
    have hne3 := rowsV_ne h.1 h.2 f.1 (List.mem_map_of_mem (List.mem_of_getElem? hf))
    have hv2' := hv2
    unfold rowV at hv2
    injection hv2 with e1 e2 e3
    refine ⟨f.1.a, f.1.c, ?_, ?_, by rw [e3]; exact hc2, ?_, fun hne b2 off2 e => by
      obtain ⟨g2, ha2, hb3, _⟩ := hb2 hne
      rw [e1, ha2] at e
      injection e with e
      injection e with e
      omega⟩
    · rw [Nat.zero_add, hS.cell _ (by omega), ← e2]
      rw [if_neg (by omega)]
      simp [List.getD, c0, rowV]
    · rw [Nat.zero_add, hS.cell _ (by omega)]
      rw [if_neg (by omega)]
      simp [List.getD, c1]
    · rw [e1]
      by_cases hne : f.1.xs = []
      · rw [hne]; exact RdI.nil _ _
      · obtain ⟨g2, ha2, _, _⟩ := hb2 hne
        refine hO.rdI hR2 (fun b off hab hbg => ?_)
        rw [ha2] at hab
        injection hab with hab
        injection hab with hab
        rw [hv2', ha2] at hne3
        subst hbg
        subst hab
        rcases hne3 with h | h
        · cases h
        · exact h rfl
set_option maxRecDepth 100000 in
/-- The list of votes is a block if there is a vote. -/
theorem LstV.at0 {w : World} {B : Nat} {v : Value} {es : List (RowE × Int)} (h : LstV w B v es) (hne : es ≠ []) : ∃ g c, v = .slice (some ⟨g, 0, none⟩) es.length c ∧ es.length ≤ c ∧ B ≤ g ∧ g < w.heap.size := by
  rcases h.1.val with ⟨_, he⟩ | ⟨g, c, hv, hc, hg, hB⟩
  · exact absurd he hne
  · exact ⟨g, c, hv, hc, hg, hB.lt⟩
set_option maxRecDepth 100000 in
theorem LstV.rdV {w : World} {B : Nat} {a : Option Addr} {n c : Nat} {es : List (RowE × Int)} (h : LstV w B (.slice a n c) es) : RdV w a (vtsOf es) := h.1.rd (B' := B) h.2
set_option maxRecDepth 100000 in
theorem LstV.form {w : World} {B : Nat} {v : Value} {es : List (RowE × Int)} (h : LstV w B v es) : ∃ a c, v = .slice a es.length c ∧ es.length ≤ c := by
  rcases h.1.val with ⟨hv, he⟩ | ⟨g, c, hv, hc, _, _⟩
  · subst he; exact ⟨none, 0, hv, Nat.le_refl _⟩
  · exact ⟨_, c, hv, hc⟩
set_option maxRecDepth 100000 in
theorem vtsOf_len {es : List (RowE × Int)} {vs : List Vt} (h : vtsOf es = vs) : es.length = vs.length := by rw [← h]; unfold vtsOf; rw [List.length_map]
set_option maxRecDepth 100000 in
theorem vtsOf_at {es : List (RowE × Int)} {vs : List Vt} (h : vtsOf es = vs) {k : Nat} {x : Vt} (hx : vs[k]? = some x) : ∃ e, es[k]? = some e ∧ e.1.xs = x.1 ∧ e.2 = x.2 := by
  rw [← h] at hx
  unfold vtsOf at hx
  rw [List.getElem?_map, Option.map_eq_some_iff] at hx
  obtain ⟨e, he, rfl⟩ := hx
  exact ⟨e, he, rfl, rfl⟩

end Go.Proofs.Ytkbbcglghfddjaa
