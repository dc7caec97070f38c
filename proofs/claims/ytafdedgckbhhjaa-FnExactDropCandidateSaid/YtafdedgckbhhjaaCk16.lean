/- Rankings that are turned round or left by a candidate, and copies made by append. Rankings that are turned round or left by a candidate, of the program and of the spec. -/
import Derived.Test.YtafdedgckbhhjaaCk15
namespace Go.Proofs.Ytafdedgckbhhjaa
open Go.RowKit

set_option maxRecDepth 100000 in
/-- A list that is read appended to an empty one of the call's own: what was there stays. -/
theorem run_cpy (ws : World) (B g : Nat) (ty : TypeId) (hO : OwnI ws B (.slice (some ⟨g, 0, none⟩) 0 0) []) (hB : B ≤ ws.heap.size) (ax : Option Addr) (ys : List Int) (c : Nat) (hR : RdI ws ax ys) (hl : ys.length ≤ 100000) :
    ∃ v' w', (Builtin.append_ #[42, 42] ty #[.slice (some ⟨g, 0, none⟩) 0 0, .slice ax ys.length c]).run Try.prog ws = .ok v' w' ∧ OwnI w' B v' ys ∧ Ext ws w' := by
  obtain ⟨i0, hi, hz0, hz1, hz2⟩ := info_parts info_int
  by_cases hne : ys = []
  · subst hne
    exact ⟨_, ws, run_append_none ws B 42 ty 3 i0 1 Try.underlying42 hi _ 0 [] hO ax c, hO, Ext.refl _⟩
  · obtain ⟨b, off, rfl, hc⟩ := hR hne
    have hp : 0 < ys.length := List.length_pos_iff.2 hne
    have hcell : ∀ (j : Nat) u, (ys.map (Value.int .i64))[j]? = some u → ws.cell? ((⟨b, off, none⟩ : Addr).add j) = some u := fun j u hj => by
      rw [List.getElem?_map, Option.map_eq_some_iff] at hj
      obtain ⟨y, hy, rfl⟩ := hj
      have := hc j y hy
      by_cases hj0 : j = 0
      · subst hj0
        simpa [Addr.add] using this
      · simpa [Addr.add, hj0] using this
    obtain ⟨v', w', hr, h1, h2, h3⟩ := run_append_any (P := Try.prog) ws B 42 ty 3 i0 (.int .i64 0) 1 8 Try.underlying42 hi hz0 hz1 hz2 rfl (by decide) _ _ _ hO (some ⟨b, off, none⟩) ys.length c (ys.map (Value.int .i64)) (by simp)
      (fun _ => ⟨_, rfl, hcell⟩) (fun u hu => by
        obtain ⟨y, _, rfl⟩ := List.mem_map.1 hu
        rfl) (by unfold maxLen; simp; omega) (by simp; omega) hB
    have hr2 := run_append_grow (P := Try.prog) ws 42 ty 3 i0 (.int .i64 0) Try.underlying42 hi hz0 ⟨g, 0, none⟩ 0 0 [] (by simp) (fun j v h => by simp at h) ⟨b, off, none⟩ ys.length c (ys.map (Value.int .i64)) (by rw [hz1]; simp) hcell (by omega) (by simp; omega)
      (growslice_fits (by omega) (by rw [hz2]; omega))
    have hr' := hr
    rw [hr] at hr2
    injection hr2 with e1 e2
    refine ⟨v', w', hr', ?_, ?_⟩
    · have h1' : w'.ownsRow B 3 1 v' (0 + ys.length) ([] ++ ys.map (Value.int .i64)) := h1
      rw [Nat.zero_add, List.nil_append] at h1'
      exact h1'
    · rw [e2]
      exact ((Ext.refl ws).drew).alloc _
set_option maxRecDepth 100000 in
theorem oper_cpyI {o : Oper} {a : Act} {K : World → Act → Prop} (wq ws : World) (hws : Ext (wq.alloc (.cells #[] 3)) ws) (s x : Operand)
    (ho : o.op = .call { callee := .builtin .append, args := #[s, x], argTypes := #[42, 42] }) (ys : List Int) (ax : Option Addr) (n c : Nat) (hn : n = ys.length)
    (hs : a.eval s = .slice (some ⟨wq.heap.size, 0, none⟩) 0 0) (hx : a.eval x = .slice ax n c) (hR : RdI ws ax ys) (hl : ys.length ≤ 100000)
    (h : ∀ v' w', OwnI w' wq.heap.size v' ys → Ext ws w' → Ext ws w' ∧ K w' (a.put o.dst v')) : o.wp Try.prog a ws (fun a' w' => Ext ws w' ∧ K w' a') NoExit := by
  subst hn
  have hsz := hws.size
  have hs2 : (wq.alloc (.cells #[] 3)).heap.size = wq.heap.size + 1 := by simp
  obtain ⟨v', w', hr, h1, h2⟩ := run_cpy ws wq.heap.size wq.heap.size o.type ((OwnI.made0 wq).ext hws) (by omega) ax ys c hR hl
  unfold Oper.wp execOp
  simp only [ho, resolve, invoke, builtin, Sem.run_bind, Sem.run_pure, Result.andThen_ok, List.map_toArray, List.map_cons, List.map_nil, hs, hx, hr]
  exact h v' w' h1 h2

set_option maxRecDepth 100000 in
set_option maxHeartbeats 2000000 in
theorem wout_spec (w : World) (a : Option Addr) (c n : Nat) (xs : List Int) (y : Int) (hxn : xs.length = n) (n5 : n ≤ 5) (hb : ∀ x ∈ xs, 0 ≤ x ∧ x ≤ 5) (hR : RdI w a xs) :
    Calls Try.prog 26 #[.slice a n c, .int .i64 y] w fun e w' => ∃ v, e = .returned v ∧ OwnI w' w.heap.size v (dropL y xs) ∧ Ext w w' := by
  have HXN := hide hxn
  have HBD := hide hb
  have hO := OwnI.made0 w
  have hE := Ext.new w (.cells #[] 3)
  clear hxn hb
  go_enter Try.func26, Try.ntmps26
  go_wp2_with fail
  generalize w.alloc (.cells #[] 3) = W0 at hO hE ⊢
  go_loopw [5, 7, 11] (fun v _ i wr => ∃ k : Nat, k ≤ n ∧ i = .int .i64 k ∧ OwnI wr w.heap.size v (dropL y (xs.take k)) ∧ Ext w wr) (fun _ _ i _ => n - (intOf i).toNat)
  case atStart => exact ⟨0, Nat.zero_le _, rfl, hO, hE⟩
  case round =>
    clear hO hE
    obtain ⟨k, hk, rfl, hown, hwr⟩ := hrel
    have hdl : (dropL y (xs.take k)).length ≤ 2000000 := by
      have h1 := dropL_len y (xs.take k)
      rw [List.length_take] at h1
      omega
    by_cases hkt : k < n
    · obtain ⟨x, hx⟩ := at_of_lt (xs := xs) (k := k) (by rw [HXN.out]; exact hkt)
      obtain ⟨b, off, rfl, c0⟩ := (hR.ext hwr).at_ hx
      have hbx := HBD.out x (List.mem_of_getElem? hx)
      have HN := hide (dropL_at (a := y) hx)
      have hk1 : k + 1 ≤ n := by omega
      clear hx
      rcases Int.lt_trichotomy x y with h | h | h
      · have HV : Hid (dropL y (xs.take (k + 1)) = dropL y (xs.take k) ++ [x]) := hide (by rw [HN.out]; unfold dropV; rw [if_pos h])
        clear HN
        go_wp2_with (at_builtin; refine wpList_appI w _ rfl _ _ rfl _ (dropL y (xs.take k)) _ rfl (hown.ext (by repeat (first | exact Ext.refl _ | assumption | refine Ext.alloc ?_ _ | refine Ext.drew ?_ | refine Ext.trans ?_ (by assumption)))) (by repeat (first | exact Ext.refl _ | assumption | refine Ext.alloc ?_ _ | refine Ext.drew ?_ | refine Ext.trans ?_ (by assumption))) rfl hdl ?_; intro v' w3 hown3 hw3)
        exact ⟨⟨k + 1, hk1, by go_num, by rw [HV.out]; exact hown3, (by repeat (first | exact Ext.refl _ | assumption | refine Ext.alloc ?_ _ | refine Ext.drew ?_ | refine Ext.trans ?_ (by assumption)))⟩, by simp [intOf]; omega⟩
      · have HV : Hid (dropL y (xs.take (k + 1)) = dropL y (xs.take k)) := hide (by rw [HN.out]; unfold dropV; rw [if_neg (by omega), if_neg (by omega), List.append_nil])
        have t1 : ¬ x < y := by omega
        have t2 : ¬ y < x := by omega
        clear HN h
        go_wp2
        exact ⟨⟨k + 1, hk1, by go_num, by rw [HV.out]; exact hown, hwr⟩, by simp [intOf]; omega⟩
      · have HV : Hid (dropL y (xs.take (k + 1)) = dropL y (xs.take k) ++ [x - 1]) := hide (by rw [HN.out]; unfold dropV; rw [if_neg (by omega), if_pos h])
        have t1 : ¬ x < y := by omega
        have y1 : wrap64 (x - 1) = x - 1 := IntWalk.wrap64_in _ (by omega)
        clear HN
        go_wp2_with (at_builtin; refine wpList_appI w _ rfl _ _ rfl _ (dropL y (xs.take k)) _ rfl (hown.ext (by repeat (first | exact Ext.refl _ | assumption | refine Ext.alloc ?_ _ | refine Ext.drew ?_ | refine Ext.trans ?_ (by assumption)))) (by repeat (first | exact Ext.refl _ | assumption | refine Ext.alloc ?_ _ | refine Ext.drew ?_ | refine Ext.trans ?_ (by assumption))) rfl hdl ?_; intro v' w3 hown3 hw3)
        exact ⟨⟨k + 1, hk1, by go_num, by rw [HV.out]; exact hown3, (by repeat (first | exact Ext.refl _ | assumption | refine Ext.alloc ?_ _ | refine Ext.drew ?_ | refine Ext.trans ?_ (by assumption)))⟩, by simp [intOf]; omega⟩
    · have HE : Hid (dropL y (xs.take k) = dropL y xs) := hide (by rw [List.take_of_length_le (by rw [HXN.out]; omega)])
      go_wp2
      go_ret
      exact ⟨_, rfl, by rw [← HE.out]; exact hown, hwr⟩

set_option maxRecDepth 100000 in
set_option maxHeartbeats 4000000 in
theorem wout_impl (w : World) (a : Option Addr) (c n : Nat) (xs : List Int) (y : Int) (hx : rkOk n xs = true) (hxn : xs.length = n) (n2 : 2 ≤ n) (hy : 0 ≤ y ∧ y < n) (hR : RdI w a xs) (hc : n ≤ c) :
    Calls Try.prog 19 #[.slice a n c, .int .i64 y] w fun e w' => ∃ v, e = .returned (.tuple #[v, .bool true]) ∧ OwnI w' w.heap.size v (dropL y xs) ∧ Ext w w' := by
  have n5 : n ≤ 5 := by have := (rk_len hx).2; omega
  have hin : inR (n : Int) 1 5 = true := inR_iff.2 (by omega)
  obtain ⟨yn, hyn⟩ : ∃ yn : Nat, y = yn := ⟨y.toNat, by omega⟩
  obtain ⟨i, hi, hpl, hat, hju⟩ := place_at hx (a := yn) (by omega)
  clear hju
  rw [← hyn] at hpl hat
  have HXN := hide hxn
  have HX := hide hx
  have HP : Hid (∀ w', Ext w w' → Calls Try.prog 30 #[.slice a n c, .int .i64 y] w' fun e w'' => e = .returned (.int .i64 i) ∧ Ext w' w'') := fun w' hw' => by
    have h := place_impl w' a c xs y (hR.ext hw') (by omega)
    rw [hxn, hpl] at h
    exact h
  have HC : Hid (∀ w', Ext w w' → Calls Try.prog 33 #[.slice a n c] w' fun e w'' => ∃ v, e = .returned v ∧ OwnI w'' w'.heap.size v xs ∧ Ext w' w'') := fun w' hw' => by
    have h := cln_impl w' a c xs (hR.ext hw') (by omega)
    rw [hxn] at h
    exact h
  obtain ⟨zs, hzs⟩ : ∃ zs, zs = xs.eraseIdx i := ⟨_, rfl⟩
  have HD : Hid (dropL y xs = zs.map (downV y)) := hide (by rw [hzs]; exact dropL_erase (rk_nodup hx) hat)
  have hzl : zs.length = n - 1 := by rw [hzs, List.length_eraseIdx, if_pos (by omega), hxn]
  have HZL := hide hzl
  have HZF : Hid (∀ t, t < n - 1 → (if t < i then xs.getD t 0 else xs.getD (t + 1) 0) = zs.getD t 0) := fun t ht => by
    rw [hzs, List.getD_eq_getElem?_getD, List.getD_eq_getElem?_getD, List.getD_eq_getElem?_getD, List.getElem?_eraseIdx]
    split <;> rfl
  have HZB : Hid (∀ z ∈ zs, 0 ≤ z ∧ z ≤ 5) := fun z hz => by
    rw [hzs] at hz
    have := rk_mem hx (List.mem_of_mem_eraseIdx hz)
    omega
  have in_ : i < n := by omega
  clear hzs hzl hat hpl hx hxn hi hyn
  have t0 : ((n : Int) == 1) = false := by rw [beq_eq_false_iff_ne]; omega
  have t1 : ¬ (i : Int) < 0 := by omega
  have HY0 : Hid (wrap64 ((i : Int) + 1) = (i : Int) + 1) := IntWalk.wrap64_in _ (by omega)
  go_enter Try.func19, Try.ntmps19
  go_wp2_with (first | (go_at_call 30; refine (HP.out _ (by repeat (first | exact Ext.refl _ | assumption | refine Ext.alloc ?_ _ | refine Ext.drew ?_ | refine Ext.trans ?_ (by assumption)))).mono ?_; rintro e w1 ⟨rfl, hw1⟩) | (go_at_call 31; refine (isRk_impl _ a c n xs HX.out (hR.ext (by repeat (first | exact Ext.refl _ | assumption | refine Ext.alloc ?_ _ | refine Ext.drew ?_ | refine Ext.trans ?_ (by assumption)))) HXN.out hc hin).mono ?_; rintro e w1 ⟨rfl, hw1⟩))
  have hw : Ext w w1 := (by repeat (first | exact Ext.refl _ | assumption | refine Ext.alloc ?_ _ | refine Ext.drew ?_ | refine Ext.trans ?_ (by assumption)))
  obtain ⟨wb, hwb⟩ : ∃ wb : World, wb = w1 := ⟨_, rfl⟩
  subst hwb
  clear hw1
  refine (HC.out _ hw).mono ?_
  rintro e w2 ⟨v, rfl, hv, hw2⟩
  obtain ⟨g, c2, rfl⟩ := hv.some (by rw [HXN.out]; omega)
  obtain ⟨hS, _, hnc, hcm, hg, hB⟩ := hv.shp
  rw [HXN.out] at hB hnc ⊢
  have hww : Ext w w2 := hw.trans hw2
  have hgw : w.heap.size ≤ g := Nat.le_trans hw.size hg
  have HR := delS_impl w2 g n c2 i (i + 1) (fun j => .int .i64 (xs.getD j 0)) hB (by omega) (by omega) hnc (fun t _ => rfl)
  rw [show ((i + 1 : Nat) : Int) = (i : Int) + 1 by omega, show n - (i + 1 - i) = n - 1 by omega] at HR
  have HR := hide HR
  have HS := hide hS
  clear hv hB hS HC HP hw2
  have y0 := HY0.out
  go_wp2_with fail
  clear y0
  refine HR.out.mono ?_
  rintro e w3 ⟨rfl, hB3, hO3, hS3⟩
  have hsh := hide (hS3 _ HS.out)
  have hB4 := (hB3.le (m := n - 1) (by omega)).congr (f' := fun t => .int .i64 (if t < 0 then downV y (zs.getD t 0) else zs.getD t 0)) (fun t ht => by
    rw [if_neg (by omega), ← HZF.out t ht]
    unfold delF
    by_cases e1 : t < i
    · rw [if_pos e1, if_pos e1]
    · rw [if_neg e1, if_neg e1, if_pos (by omega), show t + (i + 1 - i) = t + 1 by omega])
  have hE3 : Ext w w3 := Only.ext hww hO3 hgw
  clear hB3 hS3 HR HS hO3 hww
  obtain ⟨m, hm⟩ : ∃ m : Nat, m = n - 1 := ⟨_, rfl⟩
  rw [← hm] at hB4 ⊢
  have hmc : m ≤ c2 := by omega
  have hm5 : m ≤ 5 := by omega
  have HMZ : Hid (zs.length = m) := hide (by rw [HZL.out, hm])
  clear hm HZF HZL
  go_wp2_with fail
  go_loopw [8, 9, 33] (fun _ _ q wr => ∃ k : Nat, k ≤ m ∧ q = .int .i64 k ∧ BlkF wr g m (fun t => .int .i64 (if t < k then downV y (zs.getD t 0) else zs.getD t 0)) ∧ Hid (Shp g 3 c2 wr) ∧ Ext w wr) (fun _ _ q _ => m - (intOf q).toNat)
  case atStart => exact ⟨0, Nat.zero_le _, rfl, hB4, hsh, hE3⟩
  case round =>
    clear hB4 hsh hE3
    obtain ⟨k, hk, rfl, hB, hsh, hwr⟩ := hrel
    by_cases hkt : k < m
    · obtain ⟨z, hz⟩ := at_of_lt (xs := zs) (k := k) (by rw [HMZ.out]; exact hkt)
      have hzb := HZB.out z (List.mem_of_getElem? hz)
      have HZ : Hid (zs.getD k 0 = z) := hide (by simp [List.getD, hz])
      have b0 := hB.cell k hkt
      rw [if_neg (by omega), HZ.out] at b0
      have z0 := hB.fr k
      have HB := hide hB
      have hk1 : k + 1 ≤ m := by omega
      clear hz hB
      by_cases hgt : y < z
      · obtain ⟨hz1, hz2⟩ := hzb
        go_wp2
        have hB2 := HB.out.set k hkt (.int .i64 (z - 1))
        have hO : Only g wr (wr.setCell ⟨g, k, none⟩ (.int .i64 (z - 1))) := (Only.refl g wr).setCell _ _
        refine ⟨⟨k + 1, hk1, by go_num, hB2.congr (fun t ht => ?_), hsh.out.setCell _ _, Only.ext hwr hO hgw⟩, by simp [intOf]; omega⟩
        by_cases e1 : t = k
        · subst e1
          rw [if_pos rfl, if_pos (by omega), HZ.out]; unfold downV; rw [if_pos hgt]
        · rw [if_neg e1]
          by_cases e2 : t < k
          · rw [if_pos e2, if_pos (by omega)]
          · rw [if_neg e2, if_neg (by omega)]
      · go_wp2
        refine ⟨⟨k + 1, hk1, by go_num, HB.out.congr (fun t ht => ?_), hsh, hwr⟩, by simp [intOf]; omega⟩
        by_cases e1 : t = k
        · subst e1
          rw [if_neg (by omega), if_pos (by omega), HZ.out]; unfold downV; rw [if_neg hgt]
        · by_cases e2 : t < k
          · rw [if_pos e2, if_pos (by omega)]
          · rw [if_neg e2, if_neg (by omega)]
    · have hkm : k = m := by omega
      subst hkm
      go_wp2
      go_ret2
      refine ⟨_, rfl, ?_, hwr⟩
      rw [HD.out]
      refine Shp.own hsh.out hB (by rw [List.length_map, HMZ.out]) (fun j x hx => ?_) hgw hmc hcm
      have hj := lt_of_at hx
      rw [List.length_map, HMZ.out] at hj
      rw [if_pos hj]
      rw [List.getElem?_map, Option.map_eq_some_iff] at hx
      obtain ⟨z, hz, rfl⟩ := hx
      rw [show zs.getD j 0 = z by simp [List.getD, hz]]

end Go.Proofs.Ytafdedgckbhhjaa
