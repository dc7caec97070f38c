/- Rankings that are turned round or left by a candidate, of the program and of the spec. Weights of Borda and of veto, last places and winners by scores, of the program. Last places, of the program. -/
import Derived.Test.YthiojkpoeejkaaaCp26
import Derived.Test.YthiojkpoeejkaaaCp15
import Derived.Test.YthiojkpoeejkaaaCp16
namespace Go.Proofs.Ythiojkpoeejkaaa
open Go.RowKit

set_option maxRecDepth 100000 in
set_option maxHeartbeats 2000000 in
theorem rev_impl (w : World) (a : Option Addr) (c n : Nat) (xs : List Int) (hxn : xs.length = n) (n1 : 1 ≤ n) (n5 : n ≤ 5) (hR : RdI w a xs) :
    Calls Try.prog 67 #[.slice a n c] w fun e w' => ∃ v, e = .returned v ∧ OwnI w' w.heap.size v xs.reverse ∧ Ext w w' := by
  have HXN := hide hxn
  have HC : Hid (∀ w', Ext w w' → Calls Try.prog 156 #[.slice a n c] w' fun e w'' => ∃ v, e = .returned v ∧ OwnI w'' w'.heap.size v xs ∧ Ext w' w'') := fun w' hw' => by
    have h := cln_impl w' a c xs (hR.ext hw') (by omega)
    rw [hxn] at h
    exact h
  clear hxn
  go_enter Try.func67, Try.ntmps67
  go_wp2_with fail
  refine (HC.out _ (Ext.refl _)).mono ?_
  rintro e w2 ⟨v, rfl, hv, hw2⟩
  obtain ⟨g, c2, rfl⟩ := hv.some (by rw [HXN.out]; omega)
  obtain ⟨hS, _, hnc, hcm, hg, hB⟩ := hv.shp
  rw [HXN.out] at hB hnc ⊢
  have HR := hide (rvs_impl w2 g n c2 (fun j => xs.getD j 0) n1 (by omega) hB hnc)
  have HS := hide hS
  clear hv hB hS HC
  go_wp2_with fail
  refine HR.out.mono ?_
  rintro e w3 ⟨rfl, hB3, hO3, hS3⟩
  have hsh := hS3 _ HS.out
  have HB := hide hB3
  clear hB3 hS3 HR
  go_wp2
  go_ret
  refine ⟨_, rfl, Shp.own hsh HB.out (by rw [List.length_reverse, HXN.out]) (fun j x hx => ?_) hg hnc hcm, Only.ext hw2 hO3 hg⟩
  have hj := lt_of_at hx
  rw [List.length_reverse, HXN.out] at hj
  rw [List.getElem?_reverse (by rw [HXN.out]; exact hj), HXN.out] at hx
  simp [List.getD, hx]

set_option maxRecDepth 100000 in
set_option maxHeartbeats 4000000 in
theorem wout_impl (w : World) (a : Option Addr) (c n : Nat) (xs : List Int) (y : Int) (hx : rkOk n xs = true) (hxn : xs.length = n) (n2 : 2 ≤ n) (hy : 0 ≤ y ∧ y < n) (hR : RdI w a xs) (hc : n ≤ c) :
    Calls Try.prog 123 #[.slice a n c, .int .i64 y] w fun e w' => ∃ v, e = .returned (.tuple #[v, .bool true]) ∧ OwnI w' w.heap.size v (dropL y xs) ∧ Ext w w' := by
  have n5 : n ≤ 5 := by have := (rk_len hx).2; omega
  have hin : inR (n : Int) 1 5 = true := inR_iff.2 (by omega)
  obtain ⟨yn, hyn⟩ : ∃ yn : Nat, y = yn := ⟨y.toNat, by omega⟩
  obtain ⟨i, hi, hpl, hat, hju⟩ := place_at hx (a := yn) (by omega)
  clear hju
  rw [← hyn] at hpl hat
  have HXN := hide hxn
  have HX := hide hx
  have HP : Hid (∀ w', Ext w w' → Calls Try.prog 155 #[.slice a n c, .int .i64 y] w' fun e w'' => e = .returned (.int .i64 i) ∧ Ext w' w'') := fun w' hw' => by
    have h := place_impl w' a c xs y (hR.ext hw') (by omega)
    rw [hxn, hpl] at h
    exact h
  have HC : Hid (∀ w', Ext w w' → Calls Try.prog 156 #[.slice a n c] w' fun e w'' => ∃ v, e = .returned v ∧ OwnI w'' w'.heap.size v xs ∧ Ext w' w'') := fun w' hw' => by
    have h := cln_impl w' a c xs (hR.ext hw') (by omega)
    rw [hxn] at h
    exact h
  obtain ⟨zs, hzs⟩ : ∃ zs, zs = xs.eraseIdx i := ⟨_, rfl⟩
  have HD : Hid (dropL y xs = zs.map (downV y)) := hide (by rw [hzs]; exact dropL_erase (rk_nodup hx) hat)
  have hzl : zs.length = n - 1 := by rw [hzs, List.length_eraseIdx, if_pos (by omega), hxn]
  have HZL := hide hzl
  have HZF : Hid (∀ t, t < n - 1 → (if t < i then xs.getD t 0 else xs.getD (t + 1) 0) = zs.getD t 0) := fun t ht => by
    rw [hzs, List.getD_eq_getElem?_getD, List.getD_eq_getElem?_getD, List.getD_eq_getElem?_getD, List.getElem?_eraseIdx]
    split <;> rfl
  have HZB : Hid (∀ z ∈ zs, 0 ≤ z ∧ z ≤ 5) := fun z hz => by
    rw [hzs] at hz
    have := rk_mem hx (List.mem_of_mem_eraseIdx hz)
    omega
  have in_ : i < n := by omega
  clear hzs hzl hat hpl hx hxn hi hyn
  have t0 : ((n : Int) == 1) = false := by rw [beq_eq_false_iff_ne]; omega
  have t1 : ¬ (i : Int) < 0 := by omega
  have HY0 : Hid (wrap64 ((i : Int) + 1) = (i : Int) + 1) := IntWalk.wrap64_in _ (by omega)
  go_enter Try.func123, Try.ntmps123
  go_wp2_with (first | (go_at_call 155; refine (HP.out _ (by repeat (first | exact Ext.refl _ | assumption | refine Ext.alloc ?_ _ | refine Ext.drew ?_ | refine Ext.trans ?_ (by assumption)))).mono ?_; rintro e w1 ⟨rfl, hw1⟩) | (go_at_call 152; refine (isRk_impl _ a c n xs HX.out (hR.ext (by repeat (first | exact Ext.refl _ | assumption | refine Ext.alloc ?_ _ | refine Ext.drew ?_ | refine Ext.trans ?_ (by assumption)))) HXN.out hc hin).mono ?_; rintro e w1 ⟨rfl, hw1⟩))
  have hw : Ext w w1 := (by repeat (first | exact Ext.refl _ | assumption | refine Ext.alloc ?_ _ | refine Ext.drew ?_ | refine Ext.trans ?_ (by assumption)))
  obtain ⟨wb, hwb⟩ : ∃ wb : World, wb = w1 := ⟨_, rfl⟩
  subst hwb
  clear hw1
  refine (HC.out _ hw).mono ?_
  rintro e w2 ⟨v, rfl, hv, hw2⟩
  obtain ⟨g, c2, rfl⟩ := hv.some (by rw [HXN.out]; omega)
  obtain ⟨hS, _, hnc, hcm, hg, hB⟩ := hv.shp
  rw [HXN.out] at hB hnc ⊢
  have hww : Ext w w2 := hw.trans hw2
  have hgw : w.heap.size ≤ g := Nat.le_trans hw.size hg
  have HR := delS_impl w2 g n c2 i (i + 1) (fun j => .int .i64 (xs.getD j 0)) hB (by omega) (by omega) hnc (fun t _ => rfl)
  rw [show ((i + 1 : Nat) : Int) = (i : Int) + 1 by omega, show n - (i + 1 - i) = n - 1 by omega] at HR
  have HR := hide HR
  have HS := hide hS
  clear hv hB hS HC HP hw2
  have y0 := HY0.out
  go_wp2_with fail
  clear y0
  refine HR.out.mono ?_
  rintro e w3 ⟨rfl, hB3, hO3, hS3⟩
  have hsh := hide (hS3 _ HS.out)
  have hB4 := (hB3.le (m := n - 1) (by omega)).congr (f' := fun t => .int .i64 (if t < 0 then downV y (zs.getD t 0) else zs.getD t 0)) (fun t ht => by
    rw [if_neg (by omega), ← HZF.out t ht]
    unfold delF
    by_cases e1 : t < i
    · rw [if_pos e1, if_pos e1]
    · rw [if_neg e1, if_neg e1, if_pos (by omega), show t + (i + 1 - i) = t + 1 by omega])
  have hE3 : Ext w w3 := Only.ext hww hO3 hgw
  clear hB3 hS3 HR HS hO3 hww
  obtain ⟨m, hm⟩ : ∃ m : Nat, m = n - 1 := ⟨_, rfl⟩
  rw [← hm] at hB4 ⊢
  have hmc : m ≤ c2 := by omega
  have hm5 : m ≤ 5 := by omega
  have HMZ : Hid (zs.length = m) := hide (by rw [HZL.out, hm])
  clear hm HZF HZL
  go_wp2_with fail
  go_loopw [8, 9, 33] (fun _ _ q wr => ∃ k : Nat, k ≤ m ∧ q = .int .i64 k ∧ BlkF wr g m (fun t => .int .i64 (if t < k then downV y (zs.getD t 0) else zs.getD t 0)) ∧ Hid (Shp g 3 c2 wr) ∧ Ext w wr) (fun _ _ q _ => m - (intOf q).toNat)
  case atStart => exact ⟨0, Nat.zero_le _, rfl, hB4, hsh, hE3⟩
  case round =>
    clear hB4 hsh hE3
    obtain ⟨k, hk, rfl, hB, hsh, hwr⟩ := hrel
    by_cases hkt : k < m
    · obtain ⟨z, hz⟩ := at_of_lt (xs := zs) (k := k) (by rw [HMZ.out]; exact hkt)
      have hzb := HZB.out z (List.mem_of_getElem? hz)
      have HZ : Hid (zs.getD k 0 = z) := hide (by simp [List.getD, hz])
      have b0 := hB.cell k hkt
      rw [if_neg (by omega), HZ.out] at b0
      have z0 := hB.fr k
      have HB := hide hB
      have hk1 : k + 1 ≤ m := by omega
      clear hz hB
      by_cases hgt : y < z
      · obtain ⟨hz1, hz2⟩ := hzb
        go_wp2
        have hB2 := HB.out.set k hkt (.int .i64 (z - 1))
        have hO : Only g wr (wr.setCell ⟨g, k, none⟩ (.int .i64 (z - 1))) := (Only.refl g wr).setCell _ _
        refine ⟨⟨k + 1, hk1, by go_num, hB2.congr (fun t ht => ?_), hsh.out.setCell _ _, Only.ext hwr hO hgw⟩, by simp [intOf]; omega⟩
        by_cases e1 : t = k
        · subst e1
          rw [if_pos rfl, if_pos (by omega), HZ.out]; unfold downV; rw [if_pos hgt]
        · rw [if_neg e1]
          by_cases e2 : t < k
          · rw [if_pos e2, if_pos (by omega)]
          · rw [if_neg e2, if_neg (by omega)]
      · go_wp2
        refine ⟨⟨k + 1, hk1, by go_num, HB.out.congr (fun t ht => ?_), hsh, hwr⟩, by simp [intOf]; omega⟩
        by_cases e1 : t = k
        · subst e1
          rw [if_neg (by omega), if_pos (by omega), HZ.out]; unfold downV; rw [if_neg hgt]
        · by_cases e2 : t < k
          · rw [if_pos e2, if_pos (by omega)]
          · rw [if_neg e2, if_neg (by omega)]
    · have hkm : k = m := by omega
      subst hkm
      go_wp2
      go_ret2
      refine ⟨_, rfl, ?_, hwr⟩
      rw [HD.out]
      refine Shp.own hsh.out hB (by rw [List.length_map, HMZ.out]) (fun j x hx => ?_) hgw hmc hcm
      have hj := lt_of_at hx
      rw [List.length_map, HMZ.out] at hj
      rw [if_pos hj]
      rw [List.getElem?_map, Option.map_eq_some_iff] at hx
      obtain ⟨z, hz, rfl⟩ := hx
      rw [show zs.getD j 0 = z by simp [List.getD, hz]]

set_option maxRecDepth 100000 in
set_option maxHeartbeats 1000000 in
theorem borOne (w : World) (g n j : Nat) (hj : j < n) (n2 : n ≤ 5) (h0 : w.cell? ⟨g, 0, none⟩ = some (.int .i64 n)) : Calls Try.prog 127 (#[.int .i64 j] ++ #[.pointer (some ⟨g, 0, none⟩)]) w fun e w' => e = .returned (.int .i64 (borW n j)) ∧ Ext w w' := by
  have hb : borW n j = (n : Int) - 1 - j := by unfold borW; omega
  have HB := hide hb
  clear hb
  show Calls Try.prog 127 #[.int .i64 j, .pointer (some ⟨g, 0, none⟩)] w _
  go_enter Try.func127, Try.ntmps127
  go_wp2
  go_ret
  exact ⟨ret_int (by rw [HB.out]), Ext.refl _⟩

set_option maxRecDepth 100000 in
set_option maxHeartbeats 1000000 in
theorem vetOne (w : World) (g n j : Nat) (hj : j < n) (n2 : n ≤ 5) (h0 : w.cell? ⟨g, 0, none⟩ = some (.int .i64 n)) : Calls Try.prog 139 (#[.int .i64 j] ++ #[.pointer (some ⟨g, 0, none⟩)]) w fun e w' => e = .returned (.int .i64 (vetW n j)) ∧ Ext w w' := by
  have hb : vetW n j = min 1 ((n : Int) - 1 - j) := by unfold vetW; split <;> omega
  have HB := hide hb
  clear hb
  show Calls Try.prog 139 #[.int .i64 j, .pointer (some ⟨g, 0, none⟩)] w _
  go_enter Try.func139, Try.ntmps139
  go_wp2
  all_goals go_ret
  all_goals exact ⟨ret_int (by rw [HB.out]; omega), Ext.refl _⟩

set_option maxRecDepth 100000 in
set_option maxHeartbeats 1000000 in
theorem bor_impl (w : World) (n : Nat) (n1 : 1 ≤ n) (n2 : n ≤ 5) :
    Calls Try.prog 36 #[.int .i64 n] w fun e w' => ∃ v, e = .returned v ∧ OwnI w' w.heap.size v (rowL n (borW n)) ∧ Ext w w' := by
  have q0 := new0 w (.int .i64 n) [] 3
  have hE := Ext.new w (.cells #[.int .i64 n] 3)
  go_enter Try.func36, Try.ntmps36
  go_wp2_with fail
  refine (weightsOf_impl 127 #[.pointer (some ⟨w.heap.size, 0, none⟩)] (borW n) _ n n1 n2 Try.call127 (fun j w' hj hw' => borOne w' w.heap.size n j hj n2 (hw'.keep q0))).mono ?_
  rintro e w1 ⟨v, rfl, hv, hw1⟩
  go_wp2
  go_ret
  exact ⟨_, rfl, hv.base hE.size, hE.trans hw1⟩

set_option maxRecDepth 100000 in
set_option maxHeartbeats 1000000 in
theorem vet_impl (w : World) (n : Nat) (n1 : 1 ≤ n) (n2 : n ≤ 5) :
    Calls Try.prog 45 #[.int .i64 n] w fun e w' => ∃ v, e = .returned v ∧ OwnI w' w.heap.size v (rowL n (vetW n)) ∧ Ext w w' := by
  have q0 := new0 w (.int .i64 n) [] 3
  have hE := Ext.new w (.cells #[.int .i64 n] 3)
  go_enter Try.func45, Try.ntmps45
  go_wp2_with fail
  refine (weightsOf_impl 139 #[.pointer (some ⟨w.heap.size, 0, none⟩)] (vetW n) _ n n1 n2 Try.call139 (fun j w' hj hw' => vetOne w' w.heap.size n j hj n2 (hw'.keep q0))).mono ?_
  rintro e w1 ⟨v, rfl, hv, hw1⟩
  go_wp2
  go_ret
  exact ⟨_, rfl, hv.base hE.size, hE.trans hw1⟩

set_option maxRecDepth 100000 in
set_option maxHeartbeats 1000000 in
theorem swin_impl (w : World) (n : Nat) (a aw : Option Addr) (c cw : Nat) (vs : List Vt) (f : Nat → Int) (n2 : n ≤ 5) (hR : RdV w a vs) (hW : RdI w aw (rowL n f)) (hf : GoodW f) (h0 : profOk n vs = true) :
    Calls Try.prog 43 #[.agg #[.int .i64 n, .slice a vs.length c], .slice aw n cw] w fun e w' => ∃ v, e = .returned v ∧ OwnI w' w.heap.size v (bestL (rowL n (scoV f vs))) ∧ Ext w w' := by
  go_enter Try.func43, Try.ntmps43
  go_wp2_with fail
  refine (sco_impl _ _ a aw c cw vs f n rfl (hR.ext (by repeat (first | exact Ext.refl _ | assumption | refine Ext.alloc ?_ _ | refine Ext.drew ?_ | refine Ext.trans ?_ (by assumption)))) (hW.ext (by repeat (first | exact Ext.refl _ | assumption | refine Ext.alloc ?_ _ | refine Ext.drew ?_ | refine Ext.trans ?_ (by assumption)))) hf h0).mono ?_
  rintro e w1 ⟨v, rfl, hv, hw1⟩
  obtain ⟨av, cv, rfl, _, hRs, hju⟩ := hv.fr
  have hw : Ext w w1 := (Ext.new _ _).trans hw1
  clear hju hv
  have H := hide (gr_impl w1 av cv (rowL n (scoV f vs)) hRs (by rw [rowL_len]; omega))
  go_wp2_with fail
  refine H.out.mono ?_
  rintro e w2 ⟨v, rfl, hv, hw2⟩
  go_wp2
  go_ret
  exact ⟨_, rfl, hv.base hw.size, hw.trans hw2⟩

set_option maxRecDepth 100000 in
theorem lstV_at {n : Nat} {vs : List Vt} {k : Nat} {x : Vt} (hx : vs[k]? = some x) (a : Nat) : lstV n (vs.take (k + 1)) a = lstV n (vs.take k) a + x.2 * (if (placeI x.1 a).toNat + 1 = n then 1 else 0) := by
  unfold lstV
  rw [scoV_at hx]
set_option maxRecDepth 100000 in
theorem lstV_bd {n : Nat} {vs : List Vt} (hS : SmallV n vs) (a : Nat) : ∀ k, k ≤ vs.length → 0 ≤ lstV n (vs.take k) a ∧ lstV n (vs.take k) a ≤ 1000 * k
  | 0, _ => by simp [lstV, scoV]
  | k + 1, hk => by
    obtain ⟨x, hx⟩ := at_of_lt (xs := vs) (k := k) (by omega)
    have ih := lstV_bd hS a k (by omega)
    have h2 := hS.2 x (List.mem_of_getElem? hx)
    rw [lstV_at hx]
    split <;> omega

set_option maxRecDepth 100000 in
set_option maxHeartbeats 4000000 in
theorem las_impl (w : World) (n : Nat) (a : Option Addr) (c : Nat) (vs : List Vt) (hR : RdV w a vs) (h0 : profOk n vs = true) (n1 : 1 ≤ n) (n2 : n ≤ 5) :
    Calls Try.prog 46 #[.agg #[.int .i64 n, .slice a vs.length c]] w fun e w' => ∃ v, e = .returned v ∧ OwnI w' w.heap.size v (rowL n (lstV n vs)) ∧ Ext w w' := by
  have HS := hide (prof_small h0)
  have hvl := (prof_small h0).1
  have q0 := new0 w (.int .i64 n) [.slice a vs.length c] 47
  have q1 := new1 w (.int .i64 n) (.slice a vs.length c) [] 47
  obtain ⟨i0, hi, hz0, hz1, hz2⟩ := info_parts info_int
  have hmk := fun W => run_make_rowN (P := Try.prog) 29 3 i0 _ Try.underlying29 hi hz0 .i64 .i64 n n (Nat.le_refl _) (by rw [hz2]; omega) (by omega) W
  rw [hz1, Nat.mul_one] at hmk
  go_enter Try.func46, Try.ntmps46
  go_wp2_with (go_at_call 35; refine (prof_impl _ _ _ _ _ (hR.ext (by repeat (first | exact Ext.refl _ | assumption | refine Ext.alloc ?_ _ | refine Ext.drew ?_ | refine Ext.trans ?_ (by assumption))))).mono ?_; rintro e w1 ⟨rfl, hw1⟩; have q0 := Ext.keep (w' := w1) (by repeat (first | exact Ext.refl _ | assumption | refine Ext.alloc ?_ _ | refine Ext.drew ?_ | refine Ext.trans ?_ (by assumption))) q0; have q1 := Ext.keep (w' := w1) (by repeat (first | exact Ext.refl _ | assumption | refine Ext.alloc ?_ _ | refine Ext.drew ?_ | refine Ext.trans ?_ (by assumption))) q1)
  clear hmk
  have hw : Ext w w1 := (by repeat (first | exact Ext.refl _ | assumption | refine Ext.alloc ?_ _ | refine Ext.drew ?_ | refine Ext.trans ?_ (by assumption)))
  have hR0 := hR.ext hw
  have hO := OwnI.made w1 n (by omega)
  rw [rowL_congr (g := lstV n (vs.take 0)) (fun j _ => by simp [lstV, scoV])] at hO
  have h20 := Ext.new w1 (.cells (madeCells #[.int .i64 0] n) 3)
  obtain ⟨wb, hwb⟩ : ∃ wb : World, wb = w1 := ⟨_, rfl⟩
  subst hwb
  have hlt2 := hide (World.block_lt_of_cell? wb _ q0)
  have q0 := h20.keep q0
  have q1 := h20.keep q1
  clear hw1 h0
  generalize wb.alloc (.cells (madeCells #[.int .i64 0] n) 3) = W0 at hO h20 q0 q1 ⊢
  have q0 := q0
  go_wp2_with fail
  go_loopw [5, 15] (fun _ i wr => ∃ k : Nat, k ≤ vs.length ∧ i = .int .i64 k ∧ Hid (OwnI wr wb.heap.size (.slice (some ⟨wb.heap.size, 0, none⟩) n n) (rowL n (lstV n (vs.take k)))) ∧ wr.cell? ⟨w.heap.size, 0, none⟩ = some (.int .i64 n) ∧ Ext wb wr) (fun _ i _ => vs.length - (intOf i).toNat)
  case atStart => exact ⟨0, Nat.zero_le _, rfl, hO, q0, h20⟩
  case round =>
    clear hO h20 q0 q1
    obtain ⟨k, hk, rfl, hown, qn, hwr⟩ := hrel
    by_cases hlt : k < vs.length
    · obtain ⟨x, hx⟩ := at_of_lt hlt
      obtain ⟨b, off, a', c', rfl, c0, c1, hc', hRx⟩ := (hR0.ext hwr).at_ hx
      obtain ⟨x0, x1, x2⟩ := HS.out.2 x (List.mem_of_getElem? hx)
      have hxl : x.1.length = n := by have := (rk_len x0).1; omega
      obtain ⟨y, hy⟩ := at_of_lt (xs := x.1) (k := n - 1) (by omega)
      have hym := rk_mem x0 (List.mem_of_getElem? hy)
      obtain ⟨o, rfl⟩ : ∃ o : Nat, y = o := ⟨y.toNat, by omega⟩
      have ho : o < n := by omega
      have HN : Hid (∀ j, j < n → lstV n (vs.take (k + 1)) j = if j = o then lstV n (vs.take k) o + x.2 else lstV n (vs.take k) j) := fun j hj => by
        rw [lstV_at hx]
        obtain ⟨p, hp, hpl, hpa, hpu⟩ := place_at x0 hj
        rw [hpl]
        simp only [Int.toNat_natCast]
        by_cases e : j = o
        · subst e
          have e2 := hpu (n - 1) hy
          rw [if_pos rfl, if_pos (by omega), Int.mul_one]
        · rw [if_neg e, if_neg (fun h => by
            have : p = n - 1 := by omega
            rw [this, hy] at hpa
            injection hpa with hpa
            omega)]
          omega
      have hbd := lstV_bd HS.out o k hk
      obtain ⟨b2, o2, rfl, d0⟩ := hRx.at_ hy
      have e0 := new0 wr (.slice (some ⟨b2, o2, none⟩) x.1.length c') [.int .i64 x.2] 97
      have e1 := new1 wr (.slice (some ⟨b2, o2, none⟩) x.1.length c') (.int .i64 x.2) [] 97
      have hE := Ext.new wr (.cells #[.slice (some ⟨b2, o2, none⟩) x.1.length c', .int .i64 x.2] 97)
      obtain ⟨f0, z0, hst⟩ := (hown.out.ext hE).storeAt (rowL_at (f := lstV n (vs.take k)) ho)
      have HOW := hide hown.out
      rw [hxl] at c0 e0 e1 hc' hE f0 z0
      have d0 := hE.keep d0
      have qm := hE.keep qn
      have i1 : (n : Int) - 1 < (n : Int) := by omega
      have i2 : (0 : Int) ≤ (n : Int) - 1 := by omega
      have i3 : ((n : Int) - 1).toNat = n - 1 := by omega
      have i4 : n - 1 < n := by omega
      have i5 : (o : Int) < (n : Int) := by omega
      have i6 : (1 : Int) ≤ (n : Int) := by omega
      have y1 : IntKind.i64.wrap ((n : Int) - 1) = (n : Int) - 1 := IntWalk.i64_in _ (by omega)
      have y2 : IntKind.i64.wrap (lstV n (vs.take k) o + x.2) = lstV n (vs.take k) o + x.2 := IntWalk.i64_in _ (by omega)
      clear hx hy hym x0 hxl hRx hst hown hbd
      go_wp2
      clear c0 c1
      generalize wr.alloc (.cells #[.slice (some ⟨b2, o2, none⟩) n c', .int .i64 x.2] 97) = W1 at hE e0 e1 f0 z0 d0 qm ⊢
      refine wp_region_X (by kernel_rfl) (by kernel_rfl) ?_
      repeat' (refine wpX_stepQ (fun K hK => ?_)
               go_simp
               try (rw [if_neg (by intro h; simp [undef] at h)])
               try split
               all_goals
                 first
                 | (refine hK _ ?_
                    clear hK K)
                 | (apply Exists.intro
                    refine ⟨fun wq hwq => ?_, hK _ ?_⟩
                    · have hcq := hwq.cellS
                      go_simp
                      first
                      | exact ⟨Ext.refl _, rfl⟩
                    clear hK K))
      refine wpX_stepL rfl (by kernel_rfl) (by kernel_rfl) (by kernel_rfl) (fun K hK wz hwz => ?_)
      have hcz := hwz.cellS
      have hfz := hwz.frozenS
      go_simp
      refine hK _ _ ?_
      clear hK K
      have hEz : Ext wr wz := hE.trans hwz
      obtain ⟨-, -, hst⟩ := (HOW.out.ext hEz).storeAt (rowL_at (f := lstV n (vs.take k)) ho)
      have hOn := hst (lstV n (vs.take k) o + x.2)
      rw [rowL_set (g := lstV n (vs.take (k + 1))) (fun j hj => HN.out j hj)] at hOn
      have hOn := hide hOn
      have hlt2 := hlt2.out
      clear hst
      go_wp2
      refine ⟨⟨k + 1, by omega, by go_num, hOn, ?_, Ext.setCell (hwr.trans hEz) (Nat.le_refl _) _⟩, by simp [intOf]; omega⟩
      rw [World.cell?_setCell_other _ _ _ _ (by simp only [ne_eq, Addr.mk.injEq, not_and]; omega)]
      exact hwz.keep qm
    · have hkn : vs.take k = vs := List.take_of_length_le (by omega)
      rw [hkn] at hown
      go_wp2
      go_ret
      exact ⟨_, rfl, hown.out.base hw.size, hw.trans hwr⟩

end Go.Proofs.Ythiojkpoeejkaaa
