/- Rankings that are turned round or left by a candidate, of the program and of the spec. The median of the peaks: both packages. -/
import Derived.Test.YtkbbcglghfddjaaCg24
import Derived.Test.YtkbbcglghfddjaaCg21
namespace Go.Proofs.Ytkbbcglghfddjaa
open Go.RowKit

set_option maxRecDepth 100000 in
set_option maxHeartbeats 2000000 in
theorem rev_impl (w : World) (a : Option Addr) (c n : Nat) (xs : List Int) (hxn : xs.length = n) (n1 : 1 ≤ n) (n5 : n ≤ 5) (hR : RdI w a xs) :
    Calls Try.prog 30 #[.slice a n c] w fun e w' => ∃ v, e = .returned v ∧ OwnI w' w.heap.size v xs.reverse ∧ Ext w w' := by
  have HXN := hide hxn
  have HC : Hid (∀ w', Ext w w' → Calls Try.prog 63 #[.slice a n c] w' fun e w'' => ∃ v, e = .returned v ∧ OwnI w'' w'.heap.size v xs ∧ Ext w' w'') := fun w' hw' => by
    have h := cln_impl w' a c xs (hR.ext hw') (by omega)
    rw [hxn] at h
    exact h
  clear hxn
  go_enter Try.func30, Try.ntmps30
  go_wp2_with fail
  refine (HC.out _ (Ext.refl _)).mono ?_
  rintro e w2 ⟨v, rfl, hv, hw2⟩
  obtain ⟨g, c2, rfl⟩ := hv.some (by rw [HXN.out]; omega)
  obtain ⟨hS, _, hnc, hcm, hg, hB⟩ := hv.shp
  rw [HXN.out] at hB hnc ⊢
  have HR := hide (rvs_impl w2 g n c2 (fun j => xs.getD j 0) n1 (by omega) hB hnc)
  have HS := hide hS
  clear hv hB hS HC
  go_wp2_with fail
  refine HR.out.mono ?_
  rintro e w3 ⟨rfl, hB3, hO3, hS3⟩
  have hsh := hS3 _ HS.out
  have HB := hide hB3
  clear hB3 hS3 HR
  go_wp2
  go_ret
  refine ⟨_, rfl, Shp.own hsh HB.out (by rw [List.length_reverse, HXN.out]) (fun j x hx => ?_) hg hnc hcm, Only.ext hw2 hO3 hg⟩
  have hj := lt_of_at hx
  rw [List.length_reverse, HXN.out] at hj
  rw [List.getElem?_reverse (by rw [HXN.out]; exact hj), HXN.out] at hx
  simp [List.getD, hx]

set_option maxRecDepth 100000 in
set_option maxHeartbeats 4000000 in
theorem wout_impl (w : World) (a : Option Addr) (c n : Nat) (xs : List Int) (y : Int) (hx : rkOk n xs = true) (hxn : xs.length = n) (n2 : 2 ≤ n) (hy : 0 ≤ y ∧ y < n) (hR : RdI w a xs) (hc : n ≤ c) :
    Calls Try.prog 49 #[.slice a n c, .int .i64 y] w fun e w' => ∃ v, e = .returned (.tuple #[v, .bool true]) ∧ OwnI w' w.heap.size v (dropL y xs) ∧ Ext w w' := by
  have n5 : n ≤ 5 := by have := (rk_len hx).2; omega
  have hin : inR (n : Int) 1 5 = true := inR_iff.2 (by omega)
  obtain ⟨yn, hyn⟩ : ∃ yn : Nat, y = yn := ⟨y.toNat, by omega⟩
  obtain ⟨i, hi, hpl, hat, hju⟩ := place_at hx (a := yn) (by omega)
  clear hju
  rw [← hyn] at hpl hat
  have HXN := hide hxn
  have HX := hide hx
  have HP : Hid (∀ w', Ext w w' → Calls Try.prog 62 #[.slice a n c, .int .i64 y] w' fun e w'' => e = .returned (.int .i64 i) ∧ Ext w' w'') := fun w' hw' => by
    have h := place_impl w' a c xs y (hR.ext hw') (by omega)
    rw [hxn, hpl] at h
    exact h
  have HC : Hid (∀ w', Ext w w' → Calls Try.prog 63 #[.slice a n c] w' fun e w'' => ∃ v, e = .returned v ∧ OwnI w'' w'.heap.size v xs ∧ Ext w' w'') := fun w' hw' => by
    have h := cln_impl w' a c xs (hR.ext hw') (by omega)
    rw [hxn] at h
    exact h
  obtain ⟨zs, hzs⟩ : ∃ zs, zs = xs.eraseIdx i := ⟨_, rfl⟩
  have HD : Hid (dropL y xs = zs.map (downV y)) := hide (by rw [hzs]; exact dropL_erase (rk_nodup hx) hat)
  have hzl : zs.length = n - 1 := by rw [hzs, List.length_eraseIdx, if_pos (by omega), hxn]
  have HZL := hide hzl
  have HZF : Hid (∀ t, t < n - 1 → (if t < i then xs.getD t 0 else xs.getD (t + 1) 0) = zs.getD t 0) := fun t ht => by
    rw [hzs, List.getD_eq_getElem?_getD, List.getD_eq_getElem?_getD, List.getD_eq_getElem?_getD, List.getElem?_eraseIdx]
    split <;> rfl
  have HZB : Hid (∀ z ∈ zs, 0 ≤ z ∧ z ≤ 5) := fun z hz => by
    rw [hzs] at hz
    have := rk_mem hx (List.mem_of_mem_eraseIdx hz)
    omega
  have in_ : i < n := by omega
  clear hzs hzl hat hpl hx hxn hi hyn
  have t0 : ((n : Int) == 1) = false := by rw [beq_eq_false_iff_ne]; omega
  have t1 : ¬ (i : Int) < 0 := by omega
  have HY0 : Hid (wrap64 ((i : Int) + 1) = (i : Int) + 1) := IntWalk.wrap64_in _ (by omega)
  go_enter Try.func49, Try.ntmps49
  go_wp2_with (first | (go_at_call 62; refine (HP.out _ (by repeat (first | exact Ext.refl _ | assumption | refine Ext.alloc ?_ _ | refine Ext.drew ?_ | refine Ext.trans ?_ (by assumption)))).mono ?_; rintro e w1 ⟨rfl, hw1⟩) | (go_at_call 54; refine (isRk_impl _ a c n xs HX.out (hR.ext (by repeat (first | exact Ext.refl _ | assumption | refine Ext.alloc ?_ _ | refine Ext.drew ?_ | refine Ext.trans ?_ (by assumption)))) HXN.out hc hin).mono ?_; rintro e w1 ⟨rfl, hw1⟩))
  have hw : Ext w w1 := (by repeat (first | exact Ext.refl _ | assumption | refine Ext.alloc ?_ _ | refine Ext.drew ?_ | refine Ext.trans ?_ (by assumption)))
  obtain ⟨wb, hwb⟩ : ∃ wb : World, wb = w1 := ⟨_, rfl⟩
  subst hwb
  clear hw1
  refine (HC.out _ hw).mono ?_
  rintro e w2 ⟨v, rfl, hv, hw2⟩
  obtain ⟨g, c2, rfl⟩ := hv.some (by rw [HXN.out]; omega)
  obtain ⟨hS, _, hnc, hcm, hg, hB⟩ := hv.shp
  rw [HXN.out] at hB hnc ⊢
  have hww : Ext w w2 := hw.trans hw2
  have hgw : w.heap.size ≤ g := Nat.le_trans hw.size hg
  have HR := delS_impl w2 g n c2 i (i + 1) (fun j => .int .i64 (xs.getD j 0)) hB (by omega) (by omega) hnc (fun t _ => rfl)
  rw [show ((i + 1 : Nat) : Int) = (i : Int) + 1 by omega, show n - (i + 1 - i) = n - 1 by omega] at HR
  have HR := hide HR
  have HS := hide hS
  clear hv hB hS HC HP hw2
  have y0 := HY0.out
  go_wp2_with fail
  clear y0
  refine HR.out.mono ?_
  rintro e w3 ⟨rfl, hB3, hO3, hS3⟩
  have hsh := hide (hS3 _ HS.out)
  have hB4 := (hB3.le (m := n - 1) (by omega)).congr (f' := fun t => .int .i64 (if t < 0 then downV y (zs.getD t 0) else zs.getD t 0)) (fun t ht => by
    rw [if_neg (by omega), ← HZF.out t ht]
    unfold delF
    by_cases e1 : t < i
    · rw [if_pos e1, if_pos e1]
    · rw [if_neg e1, if_neg e1, if_pos (by omega), show t + (i + 1 - i) = t + 1 by omega])
  have hE3 : Ext w w3 := Only.ext hww hO3 hgw
  clear hB3 hS3 HR HS hO3 hww
  obtain ⟨m, hm⟩ : ∃ m : Nat, m = n - 1 := ⟨_, rfl⟩
  rw [← hm] at hB4 ⊢
  have hmc : m ≤ c2 := by omega
  have hm5 : m ≤ 5 := by omega
  have HMZ : Hid (zs.length = m) := hide (by rw [HZL.out, hm])
  clear hm HZF HZL
  go_wp2_with fail
  go_loopw [8, 9, 33] (fun _ _ q wr => ∃ k : Nat, k ≤ m ∧ q = .int .i64 k ∧ BlkF wr g m (fun t => .int .i64 (if t < k then downV y (zs.getD t 0) else zs.getD t 0)) ∧ Hid (Shp g 3 c2 wr) ∧ Ext w wr) (fun _ _ q _ => m - (intOf q).toNat)
  case atStart => exact ⟨0, Nat.zero_le _, rfl, hB4, hsh, hE3⟩
  case round =>
    clear hB4 hsh hE3
    obtain ⟨k, hk, rfl, hB, hsh, hwr⟩ := hrel
    by_cases hkt : k < m
    · obtain ⟨z, hz⟩ := at_of_lt (xs := zs) (k := k) (by rw [HMZ.out]; exact hkt)
      have hzb := HZB.out z (List.mem_of_getElem? hz)
      have HZ : Hid (zs.getD k 0 = z) := hide (by simp [List.getD, hz])
      have b0 := hB.cell k hkt
      rw [if_neg (by omega), HZ.out] at b0
      have z0 := hB.fr k
      have HB := hide hB
      have hk1 : k + 1 ≤ m := by omega
      clear hz hB
      by_cases hgt : y < z
      · obtain ⟨hz1, hz2⟩ := hzb
        go_wp2
        have hB2 := HB.out.set k hkt (.int .i64 (z - 1))
        have hO : Only g wr (wr.setCell ⟨g, k, none⟩ (.int .i64 (z - 1))) := (Only.refl g wr).setCell _ _
        refine ⟨⟨k + 1, hk1, by go_num, hB2.congr (fun t ht => ?_), hsh.out.setCell _ _, Only.ext hwr hO hgw⟩, by simp [intOf]; omega⟩
        by_cases e1 : t = k
        · subst e1
          rw [if_pos rfl, if_pos (by omega), HZ.out]; unfold downV; rw [if_pos hgt]
        · rw [if_neg e1]
          by_cases e2 : t < k
          · rw [if_pos e2, if_pos (by omega)]
          · rw [if_neg e2, if_neg (by omega)]
      · go_wp2
        refine ⟨⟨k + 1, hk1, by go_num, HB.out.congr (fun t ht => ?_), hsh, hwr⟩, by simp [intOf]; omega⟩
        by_cases e1 : t = k
        · subst e1
          rw [if_neg (by omega), if_pos (by omega), HZ.out]; unfold downV; rw [if_neg hgt]
        · by_cases e2 : t < k
          · rw [if_pos e2, if_pos (by omega)]
          · rw [if_neg e2, if_neg (by omega)]
    · have hkm : k = m := by omega
      subst hkm
      go_wp2
      go_ret2
      refine ⟨_, rfl, ?_, hwr⟩
      rw [HD.out]
      refine Shp.own hsh.out hB (by rw [List.length_map, HMZ.out]) (fun j x hx => ?_) hgw hmc hcm
      have hj := lt_of_at hx
      rw [List.length_map, HMZ.out] at hj
      rw [if_pos hj]
      rw [List.getElem?_map, Option.map_eq_some_iff] at hx
      obtain ⟨z, hz, rfl⟩ := hx
      rw [show zs.getD j 0 = z by simp [List.getD, hz]]

set_option maxRecDepth 100000 in
theorem md_at {V : Int} {ps bs : List Int} {j : Nat} {p y s : Int} (hp : ps[j]? = some p) (hy : bs[j]? = some y) :
    mdGo V (ps.drop j) (bs.drop j) s = if 0 < s + p ∧ V ≤ 2 * (s + p) then y else mdGo V (ps.drop (j + 1)) (bs.drop (j + 1)) (s + p) := by
  have h1 : ps.drop j = p :: ps.drop (j + 1) := (List.drop_eq_getElem?_toList_append (l := ps) (i := j)).trans (by rw [hp]; rfl)
  have h2 : bs.drop j = y :: bs.drop (j + 1) := (List.drop_eq_getElem?_toList_append (l := bs) (i := j)).trans (by rw [hy]; rfl)
  rw [h1, h2]; rfl

set_option maxRecDepth 100000 in
set_option maxHeartbeats 2000000 in
theorem md_impl (w : World) (sz : Int) (a a2 : Option Addr) (c c2 : Nat) (vs : List Vt) (ax : List Int) (hR : RdV w a vs) (hR2 : RdI w a2 ax) (hc2 : ax.length ≤ c2) :
    Calls Try.prog 19 #[.agg #[.int .i64 sz, .slice a vs.length c], .slice a2 ax.length c2] w fun e w' => e = .returned (.int .i64 (mdO sz ax vs)) ∧ Ext w w' := by
  have q0 := new0 w (.int .i64 sz) [.slice a vs.length c] 26
  have q1 := new1 w (.int .i64 sz) (.slice a vs.length c) [] 26
  have HE := hide (fun (w1 : World) (hw1 : Ext w w1) => pkp_impl w1 sz a a2 c c2 vs ax (hR.ext hw1) (hR2.ext hw1) hc2)
  cases hb : pkpB sz ax vs
  · rw [hb] at HE
    have HM : Hid (mdO sz ax vs = -1) := hide (by simp [mdO, pksO, hb, md_nil])
    go_enter Try.func19, Try.ntmps19
    go_wp2_with (go_at_call 22; refine (HE.out _ (by repeat (first | exact Ext.refl _ | assumption | refine Ext.alloc ?_ _ | refine Ext.drew ?_ | refine Ext.trans ?_ (by assumption)))).mono ?_; rintro e w1 ⟨rfl, hw1⟩; have q0 := Ext.keep (w' := w1) (by repeat (first | exact Ext.refl _ | assumption | refine Ext.alloc ?_ _ | refine Ext.drew ?_ | refine Ext.trans ?_ (by assumption))) q0; have q1 := Ext.keep (w' := w1) (by repeat (first | exact Ext.refl _ | assumption | refine Ext.alloc ?_ _ | refine Ext.drew ?_ | refine Ext.trans ?_ (by assumption))) q1)
    go_ret
    exact ⟨ret_int HM.out.symm, (by repeat (first | exact Ext.refl _ | assumption | refine Ext.alloc ?_ _ | refine Ext.drew ?_ | refine Ext.trans ?_ (by assumption)))⟩
  rw [hb] at HE
  by_cases hv0 : vs.length = 0
  · have hvn : vs = [] := List.length_eq_zero_iff.1 hv0
    have HM : Hid (mdO sz ax vs = -1) := by
      unfold mdO
      have hz : ∀ p ∈ pksO sz ax vs, p = 0 := fun p hp => by
        rw [hvn] at hp hb
        simp only [pksO, hb, if_true, List.mem_map] at hp
        obtain ⟨y, _, rfl⟩ := hp
        rfl
      exact md_zero _ _ _ hz
    subst hvn
    clear hv0 hb
    rw [List.length_nil] at q0 q1 ⊢
    simp only [List.length_nil] at HE
    go_enter Try.func19, Try.ntmps19
    go_wp2_with (go_at_call 22; refine (HE.out _ (by repeat (first | exact Ext.refl _ | assumption | refine Ext.alloc ?_ _ | refine Ext.drew ?_ | refine Ext.trans ?_ (by assumption)))).mono ?_; rintro e w1 ⟨rfl, hw1⟩; have q0 := Ext.keep (w' := w1) (by repeat (first | exact Ext.refl _ | assumption | refine Ext.alloc ?_ _ | refine Ext.drew ?_ | refine Ext.trans ?_ (by assumption))) q0; have q1 := Ext.keep (w' := w1) (by repeat (first | exact Ext.refl _ | assumption | refine Ext.alloc ?_ _ | refine Ext.drew ?_ | refine Ext.trans ?_ (by assumption))) q1)
    go_ret
    exact ⟨ret_int HM.out.symm, (by repeat (first | exact Ext.refl _ | assumption | refine Ext.alloc ?_ _ | refine Ext.drew ?_ | refine Ext.trans ?_ (by assumption)))⟩
  have hpo : profOk sz vs = true := by
    simp only [pkpB, Bool.and_eq_true] at hb
    exact hb.1
  have HS := hide (prof_small hpo)
  have hV1 := allV_pos' HS.out (fun e => hv0 (by rw [e]; rfl))
  have hV2 : allV vs ≤ 24000 := (sumV_bd' HS.out).2
  have hL5 := pks_len sz ax vs
  have HB := hide (fun (j : Nat) (x : Int) (hx : (pksO sz ax vs)[j]? = some x) => pks_bd hx)
  have HMD : Hid (mdO sz ax vs = mdGo (allV vs) (pksO sz ax vs) ax 0) := hide rfl
  have HC : Hid (∀ w', Ext w w' → Calls Try.prog 7 #[.agg #[.int .i64 sz, .slice a vs.length c]] w' fun e w'' => e = .returned (.int .i64 (allV vs)) ∧ Ext w' w'') := fun w' hw' =>
    (count_impl w' sz a c vs (hR.ext hw')).mono fun _ _ ⟨h1, h2⟩ => ⟨by rw [h1, if_pos hpo], h2⟩
  obtain ⟨L, hL⟩ : ∃ L : Nat, L = (pksO sz ax vs).length := ⟨_, rfl⟩
  rw [← hL] at hL5
  generalize allV vs = V at hV1 hV2 HMD HC
  go_enter Try.func19, Try.ntmps19
  go_wp2_with (go_at_call 22; refine (HE.out _ (by repeat (first | exact Ext.refl _ | assumption | refine Ext.alloc ?_ _ | refine Ext.drew ?_ | refine Ext.trans ?_ (by assumption)))).mono ?_; rintro e w1 ⟨rfl, hw1⟩; have q0 := Ext.keep (w' := w1) (by repeat (first | exact Ext.refl _ | assumption | refine Ext.alloc ?_ _ | refine Ext.drew ?_ | refine Ext.trans ?_ (by assumption))) q0; have q1 := Ext.keep (w' := w1) (by repeat (first | exact Ext.refl _ | assumption | refine Ext.alloc ?_ _ | refine Ext.drew ?_ | refine Ext.trans ?_ (by assumption))) q1)
  refine (pks_impl _ sz a a2 c c2 vs ax (hR.ext (by repeat (first | exact Ext.refl _ | assumption | refine Ext.alloc ?_ _ | refine Ext.drew ?_ | refine Ext.trans ?_ (by assumption)))) (hR2.ext (by repeat (first | exact Ext.refl _ | assumption | refine Ext.alloc ?_ _ | refine Ext.drew ?_ | refine Ext.trans ?_ (by assumption)))) hc2).mono ?_
  rintro e w2 ⟨v, rfl, hv, hw2⟩
  have q0 := Ext.keep (w' := w2) (by repeat (first | exact Ext.refl _ | assumption | refine Ext.alloc ?_ _ | refine Ext.drew ?_ | refine Ext.trans ?_ (by assumption))) q0
  have q1 := Ext.keep (w' := w2) (by repeat (first | exact Ext.refl _ | assumption | refine Ext.alloc ?_ _ | refine Ext.drew ?_ | refine Ext.trans ?_ (by assumption))) q1
  obtain ⟨av, cv, rfl, _, _, hRv, _⟩ := hv.val
  rw [← hL]
  have HL := hide hL
  have hw : Ext w w2 := (by repeat (first | exact Ext.refl _ | assumption | refine Ext.alloc ?_ _ | refine Ext.drew ?_ | refine Ext.trans ?_ (by assumption)))
  clear hv hL hw1 hw2
  go_wp2_with fail
  obtain ⟨wb, hwb⟩ : ∃ wb : World, wb = w2 := ⟨_, rfl⟩
  subst hwb
  go_loopw [5, 6, 7, 22] (fun n _ _ i wr => ∃ (j : Nat) (s : Int), j ≤ L ∧ i = .int .i64 j ∧ n = .int .i64 s ∧ 0 ≤ s ∧ s ≤ 24000 * j ∧ Hid (mdO sz ax vs = mdGo V ((pksO sz ax vs).drop j) (ax.drop j) s) ∧ Ext wb wr) (fun _ _ _ i _ => L - (intOf i).toNat)
  case atStart => exact ⟨0, 0, Nat.zero_le _, rfl, rfl, by omega, by omega, HMD, Ext.refl _⟩
  case round =>
    obtain ⟨j, s, hj, rfl, rfl, s0, s1, HG, hwr⟩ := hrel
    have hwx := hw.trans hwr
    have r0 := hwr.keep q0
    have r1 := hwr.keep q1
    by_cases hjt : j < L
    · obtain ⟨x, hx⟩ := at_of_lt (xs := pksO sz ax vs) (k := j) (by rw [← HL.out]; exact hjt)
      obtain ⟨_, x0, x1, y, hy⟩ := HB.out j x hx
      obtain ⟨b, off, rfl, d0⟩ := (hRv.ext hwr).at_ hx
      obtain ⟨b2, off2, rfl, d1⟩ := (hR2.ext hwx).at_ hy
      have hg := HG.out.trans (md_at hx hy)
      have hlax : j < ax.length := (List.getElem?_eq_some_iff.1 hy).1
      clear hx hy HG
      by_cases hq : V ≤ 2 * (s + x)
      · have HG2 := hide (hg.trans (if_pos ⟨by omega, hq⟩))
        clear hg
        go_wp2_with (go_at_call 7; refine (HC.out _ (by repeat (first | exact Ext.refl _ | assumption | refine Ext.alloc ?_ _ | refine Ext.drew ?_ | refine Ext.trans ?_ (by assumption)))).mono ?_; rintro e w1 ⟨rfl, hw1⟩; have r0 := Ext.keep (w' := w1) (by repeat (first | exact Ext.refl _ | assumption | refine Ext.alloc ?_ _ | refine Ext.drew ?_ | refine Ext.trans ?_ (by assumption))) r0; have r1 := Ext.keep (w' := w1) (by repeat (first | exact Ext.refl _ | assumption | refine Ext.alloc ?_ _ | refine Ext.drew ?_ | refine Ext.trans ?_ (by assumption))) r1; have d1 := Ext.keep (w' := w1) (by repeat (first | exact Ext.refl _ | assumption | refine Ext.alloc ?_ _ | refine Ext.drew ?_ | refine Ext.trans ?_ (by assumption))) d1)
        go_ret
        exact ⟨ret_int HG2.out.symm, hwx.trans (by repeat (first | exact Ext.refl _ | assumption | refine Ext.alloc ?_ _ | refine Ext.drew ?_ | refine Ext.trans ?_ (by assumption)))⟩
      · have HG2 := hide (hg.trans (if_neg (fun h => hq h.2)))
        clear hg
        go_wp2_with (go_at_call 7; refine (HC.out _ (by repeat (first | exact Ext.refl _ | assumption | refine Ext.alloc ?_ _ | refine Ext.drew ?_ | refine Ext.trans ?_ (by assumption)))).mono ?_; rintro e w1 ⟨rfl, hw1⟩; have r0 := Ext.keep (w' := w1) (by repeat (first | exact Ext.refl _ | assumption | refine Ext.alloc ?_ _ | refine Ext.drew ?_ | refine Ext.trans ?_ (by assumption))) r0; have r1 := Ext.keep (w' := w1) (by repeat (first | exact Ext.refl _ | assumption | refine Ext.alloc ?_ _ | refine Ext.drew ?_ | refine Ext.trans ?_ (by assumption))) r1; have d1 := Ext.keep (w' := w1) (by repeat (first | exact Ext.refl _ | assumption | refine Ext.alloc ?_ _ | refine Ext.drew ?_ | refine Ext.trans ?_ (by assumption))) d1)
        exact ⟨⟨j + 1, s + x, by omega, by go_num, rfl, by omega, by omega, HG2, (by repeat (first | exact Ext.refl _ | assumption | refine Ext.alloc ?_ _ | refine Ext.drew ?_ | refine Ext.trans ?_ (by assumption)))⟩, by simp [intOf]; omega⟩
    · have hd : (pksO sz ax vs).drop j = [] := List.drop_eq_nil_of_le (by have := HL.out; omega)
      have HG2 : Hid (mdO sz ax vs = -1) := HG.out.trans (by rw [hd]; exact md_nil _ _ _)
      clear hd HG
      go_wp2
      go_ret
      exact ⟨ret_int HG2.out.symm, hwx⟩

end Go.Proofs.Ytkbbcglghfddjaa
