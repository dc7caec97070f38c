/- Who can be reached by changing a ballot, of the program and of the spec. -/
import Derived.Test.YtblkbdfndbpndaaGreatGn
import Derived.Test.YtblkbdfndbpndaaGreatWay
namespace Go.Proofs.YtblkbdfndbpndaaGreat
open Go.RowKit

set_option maxRecDepth 100000 in
theorem run_neq_some {P : Program} (w : World) {t e : TypeId} (a : Addr) (n c : Nat) (ht : P.underlying t = some (.slice e)) :
    (binOp .neq t (.slice (some a) n c) (.slice none 0 0)).run P w = .ok (.bool true) w := by
  have h : ∀ d : Nat, (Op.equalIn (d + 1) t (.slice (some a) n c) (.slice none 0 0)).run P w = .ok false w := fun d => by
    simp [Op.equalIn, run_underlying ht]
  simp only [binOp]
  simp [Op.equal, Op.maxDepth, h 9999]
set_option maxRecDepth 100000 in
theorem run_neq_none {P : Program} (w : World) {t e : TypeId} (n c : Nat) (ht : P.underlying t = some (.slice e)) :
    (binOp .neq t (.slice none n c) (.slice none 0 0)).run P w = .ok (.bool false) w := by
  have h : ∀ d : Nat, (Op.equalIn (d + 1) t (.slice none n c) (.slice none 0 0)).run P w = .ok true w := fun d => by
    simp [Op.equalIn, run_underlying ht]
  simp only [binOp]
  simp [Op.equal, Op.maxDepth, h 9999]
set_option maxRecDepth 100000 in
theorem gn_ok {rule sz k : Int} {vs : List Vt} (h : gnB rule sz vs k = true) : ∃ (n kn : Nat) (x : Vt), sz = n ∧ k = kn ∧ profOk n vs = true ∧ n ≤ 4 ∧ 1 ≤ rule ∧ rule ≤ 13 ∧ vs[kn]? = some x := by
  unfold gnB at h
  rw [Bool.and_eq_true] at h
  obtain ⟨h0, h4, r1, r2⟩ := ply_ok h.1
  obtain ⟨k1, k2⟩ := inR_iff.1 h.2
  obtain ⟨n, rfl, _, _⟩ := prof_nat h0
  obtain ⟨x, hx⟩ := at_of_lt (xs := vs) (k := k.toNat) (by omega)
  exact ⟨n, k.toNat, x, rfl, by omega, h0, by omega, r1, r2, hx⟩

set_option maxRecDepth 100000 in
set_option maxHeartbeats 4000000 in
theorem rea_impl (w : World) (rule sz : Int) (a : Option Addr) (c : Nat) (vs : List Vt) (k : Int) (hR : RdV w a vs) :
    Calls Tryz.prog 45 #[.int .i64 rule, .agg #[.int .i64 sz, .slice a vs.length c], .int .i64 k] w fun e w' => ∃ v, e = .returned v ∧ OwnI w' w.heap.size v (reaO rule sz vs k) ∧ Ext w w' := by
  have q0 := new0 w (.int .i64 sz) [.slice a vs.length c] 29
  have q1 := new1 w (.int .i64 sz) (.slice a vs.length c) [] 29
  have HG : Hid (∀ w', Ext w w' → Calls Tryz.prog 96 #[.int .i64 rule, .agg #[.int .i64 sz, .slice a vs.length c], .int .i64 k] w' fun e w'' => e = .returned (.bool (gnB rule sz vs k)) ∧ Ext w' w'') := fun w' hw' => gn_impl w' rule sz k a c vs (hR.ext hw')
  cases hg : gnB rule sz vs k
  · have HF : Hid (reaO rule sz vs k = []) := hide (by unfold reaO; rw [hg]; rfl)
    rw [hg] at HG
    clear hg
    go_enter Tryz.func45, Tryz.ntmps45
    go_wp2_with (go_at_call 96; refine (HG.out _ (by repeat (first | exact Ext.refl _ | assumption | refine Ext.alloc ?_ _ | refine Ext.drew ?_ | refine Ext.trans ?_ (by assumption)))).mono ?_; rintro e w1 ⟨rfl, hw1⟩; have q0 := Ext.keep (w' := w1) (by repeat (first | exact Ext.refl _ | assumption | refine Ext.alloc ?_ _ | refine Ext.drew ?_ | refine Ext.trans ?_ (by assumption))) q0; have q1 := Ext.keep (w' := w1) (by repeat (first | exact Ext.refl _ | assumption | refine Ext.alloc ?_ _ | refine Ext.drew ?_ | refine Ext.trans ?_ (by assumption))) q1)
    go_ret
    exact ⟨_, rfl, by rw [HF.out]; exact OwnI.nil _ _, (by repeat (first | exact Ext.refl _ | assumption | refine Ext.alloc ?_ _ | refine Ext.drew ?_ | refine Ext.trans ?_ (by assumption)))⟩
  obtain ⟨n, kn, x, rfl, rfl, h0, n4, r1, r2, hx⟩ := gn_ok hg
  have HV : Hid (reaO rule n vs kn = upL n (fun a => (wayO (gnW rule n vs kn) (allO n) a).isSome)) := hide (by unfold reaO; rw [if_pos hg, Int.toNat_natCast, Int.toNat_natCast])
  rw [hg] at HG
  have HWY : Hid (∀ w', Ext w w' → Calls Tryz.prog 97 #[.int .i64 rule, .agg #[.int .i64 n, .slice a vs.length c], .int .i64 kn] w' fun e w'' => ∃ g V, e = .returned (.slice (some ⟨g, 0, none⟩) n n) ∧ BlkF w'' g n V ∧ WaysOk w'' w'.heap.size n (wayO (gnW rule n vs kn) (allO n)) V ∧ w'.heap.size ≤ g ∧ Ext w' w'') := fun w' hw' => ways_impl w' rule n a c kn vs x hx (hR.ext hw') h0 r1 r2
  obtain ⟨q, hq⟩ : ∃ q, q = wayO (gnW rule n vs kn) (allO n) := ⟨_, rfl⟩
  rw [← hq] at HWY HV
  have hne : ∀ (W : World) (a : Addr) (n c : Nat), (binOp .neq 33 (.slice (some a) n c) (.slice none 0 0)).run Tryz.prog W = .ok (.bool true) W := fun W a n c => run_neq_some W a n c Tryz.underlying33
  have hnn : ∀ (W : World), (binOp .neq 33 (.slice none 0 0) (.slice none 0 0)).run Tryz.prog W = .ok (.bool false) W := fun W => run_neq_none W 0 0 Tryz.underlying33
  clear hg hq h0 hx
  go_enter Tryz.func45, Tryz.ntmps45
  go_wp2_with (go_at_call 96; refine (HG.out _ (by repeat (first | exact Ext.refl _ | assumption | refine Ext.alloc ?_ _ | refine Ext.drew ?_ | refine Ext.trans ?_ (by assumption)))).mono ?_; rintro e w1 ⟨rfl, hw1⟩; have q0 := Ext.keep (w' := w1) (by repeat (first | exact Ext.refl _ | assumption | refine Ext.alloc ?_ _ | refine Ext.drew ?_ | refine Ext.trans ?_ (by assumption))) q0; have q1 := Ext.keep (w' := w1) (by repeat (first | exact Ext.refl _ | assumption | refine Ext.alloc ?_ _ | refine Ext.drew ?_ | refine Ext.trans ?_ (by assumption))) q1)
  have hw : Ext w w1 := (by repeat (first | exact Ext.refl _ | assumption | refine Ext.alloc ?_ _ | refine Ext.drew ?_ | refine Ext.trans ?_ (by assumption)))
  obtain ⟨wb, hwb⟩ : ∃ wb : World, wb = w1 := ⟨_, rfl⟩
  subst hwb
  refine (HWY.out _ hw).mono ?_
  rintro e w2 ⟨g, V, rfl, hB, hwy, hgb, hw2⟩
  have hww := hw.trans hw2
  have HWK := hide hwy
  clear hwy HWY HG hw1
  go_wp2_with fail
  go_loopw [7, 8, 9, 20] (fun v _ _ i wr => ∃ m : Nat, m ≤ n ∧ i = .int .i64 m ∧ OwnI wr w2.heap.size v (upL m (fun a => (q a).isSome)) ∧ Ext w2 wr) (fun _ _ _ i _ => n - (intOf i).toNat)
  case atStart => exact ⟨0, Nat.zero_le _, rfl, OwnI.nil _ _, Ext.refl _⟩
  case round =>
    obtain ⟨m, hm, rfl, hown, hwr⟩ := hrel
    have hul := upL_len m (fun a => (q a).isSome)
    by_cases hmt : m < n
    · have cm := (hB.ext hwr).cell m hmt
      have hm1 : m + 1 ≤ n := by omega
      have hul2 : (upL m (fun a => (q a).isSome)).length ≤ 2000000 := by omega
      rcases HWK.out m hmt with ⟨hq, hV⟩ | ⟨r, g', c', hq, hV, _, _⟩
      · rw [hV] at cm
        have HN : Hid (upL (m + 1) (fun a => (q a).isSome) = upL m (fun a => (q a).isSome)) := hide (by rw [upL_succ]; simp [hq])
        clear hq hV
        go_wp2
        exact ⟨⟨m + 1, hm1, by go_num, by rw [HN.out]; exact hown, hwr⟩, by simp [intOf]; omega⟩
      · rw [hV] at cm
        have HN : Hid (upL (m + 1) (fun a => (q a).isSome) = upL m (fun a => (q a).isSome) ++ [(m : Int)]) := hide (by rw [upL_succ]; simp [hq])
        clear hq hV
        go_wp2_with (at_builtin; refine wpList_appI w2 _ rfl _ _ rfl _ (upL m (fun a => (q a).isSome)) _ rfl (hown.ext (by repeat (first | exact Ext.refl _ | assumption | refine Ext.alloc ?_ _ | refine Ext.drew ?_ | refine Ext.trans ?_ (by assumption)))) (by repeat (first | exact Ext.refl _ | assumption | refine Ext.alloc ?_ _ | refine Ext.drew ?_ | refine Ext.trans ?_ (by assumption))) rfl hul2 ?_; intro v' w3 hown3 hw3)
        exact ⟨⟨m + 1, hm1, by go_num, by rw [HN.out]; exact hown3, (by repeat (first | exact Ext.refl _ | assumption | refine Ext.alloc ?_ _ | refine Ext.drew ?_ | refine Ext.trans ?_ (by assumption)))⟩, by simp [intOf]; omega⟩
    · have hmn : m = n := by omega
      subst hmn
      have hws := hww.size
      go_wp2
      go_ret
      exact ⟨_, rfl, by rw [HV.out]; exact hown.base hws, hww.trans hwr⟩

set_option maxRecDepth 100000 in
set_option maxHeartbeats 8000000 in
theorem rea_spec (w : World) (rule sz : Int) (a : Option Addr) (c : Nat) (vs : List Vt) (k : Int) (hR : RdV w a vs) :
    Calls Tryz.prog 44 #[.int .i64 rule, .agg #[.int .i64 sz, .slice a vs.length c], .int .i64 k] w fun e w' => ∃ v, e = .returned v ∧ OwnI w' w.heap.size v (reaO rule sz vs k) ∧ Ext w w' := by
  have q0 := new0 w (.int .i64 sz) [.slice a vs.length c] 29
  have q1 := new1 w (.int .i64 sz) (.slice a vs.length c) [] 29
  have HP : Hid (∀ w', Ext w w' → Calls Tryz.prog 90 #[.int .i64 rule, .agg #[.int .i64 sz, .slice a vs.length c]] w' fun e w'' => e = .returned (.bool (plyB rule sz vs)) ∧ Ext w' w'') := fun w' hw' => ply_spec w' rule sz a c vs (hR.ext hw')
  have HGV : Hid (gnB rule sz vs k = (plyB rule sz vs && inR k 0 ((vs.length : Int) - 1))) := rfl
  cases hp : plyB rule sz vs
  · have HF : Hid (reaO rule sz vs k = []) := hide (by unfold reaO; rw [HGV.out, hp]; rfl)
    rw [hp] at HP
    clear hp
    go_enter Tryz.func44, Tryz.ntmps44
    go_wp2_with (go_at_call 90; refine (HP.out _ (by repeat (first | exact Ext.refl _ | assumption | refine Ext.alloc ?_ _ | refine Ext.drew ?_ | refine Ext.trans ?_ (by assumption)))).mono ?_; rintro e w1 ⟨rfl, hw1⟩; have q0 := Ext.keep (w' := w1) (by repeat (first | exact Ext.refl _ | assumption | refine Ext.alloc ?_ _ | refine Ext.drew ?_ | refine Ext.trans ?_ (by assumption))) q0; have q1 := Ext.keep (w' := w1) (by repeat (first | exact Ext.refl _ | assumption | refine Ext.alloc ?_ _ | refine Ext.drew ?_ | refine Ext.trans ?_ (by assumption))) q1)
    go_ret
    exact ⟨_, rfl, by rw [HF.out]; exact OwnI.nil _ _, (by repeat (first | exact Ext.refl _ | assumption | refine Ext.alloc ?_ _ | refine Ext.drew ?_ | refine Ext.trans ?_ (by assumption)))⟩
  have hvl := (prof_small (ply_ok hp).1).1
  have HY : Hid (wrap64 ((vs.length : Int) - 1) = (vs.length : Int) - 1) := IntWalk.wrap64_in _ (by omega)
  have HIN : Hid (∀ w', Calls Tryz.prog 69 #[.int .i64 k, .int .i64 0, .int .i64 ((vs.length : Int) - 1)] w' fun e w'' => e = .returned (.bool (inR k 0 ((vs.length : Int) - 1))) ∧ Ext w' w'') := fun w' => in_spec k 0 ((vs.length : Int) - 1) w'
  cases hi : inR k 0 ((vs.length : Int) - 1)
  · have HF : Hid (reaO rule sz vs k = []) := hide (by unfold reaO; rw [HGV.out, hi, Bool.and_false]; rfl)
    rw [hp] at HP
    rw [hi] at HIN
    clear hp hi
    go_enter Tryz.func44, Tryz.ntmps44
    have y0 := HY.out
    go_wp2_with (first | (go_at_call 90; refine (HP.out _ (by repeat (first | exact Ext.refl _ | assumption | refine Ext.alloc ?_ _ | refine Ext.drew ?_ | refine Ext.trans ?_ (by assumption)))).mono ?_; rintro e w1 ⟨rfl, hw1⟩; have q0 := Ext.keep (w' := w1) (by repeat (first | exact Ext.refl _ | assumption | refine Ext.alloc ?_ _ | refine Ext.drew ?_ | refine Ext.trans ?_ (by assumption))) q0; have q1 := Ext.keep (w' := w1) (by repeat (first | exact Ext.refl _ | assumption | refine Ext.alloc ?_ _ | refine Ext.drew ?_ | refine Ext.trans ?_ (by assumption))) q1) | (go_at_call 69; refine (HIN.out _).mono ?_; rintro e w1 ⟨rfl, hw1⟩; have q0 := Ext.keep (w' := w1) (by repeat (first | exact Ext.refl _ | assumption | refine Ext.alloc ?_ _ | refine Ext.drew ?_ | refine Ext.trans ?_ (by assumption))) q0; have q1 := Ext.keep (w' := w1) (by repeat (first | exact Ext.refl _ | assumption | refine Ext.alloc ?_ _ | refine Ext.drew ?_ | refine Ext.trans ?_ (by assumption))) q1))
    go_ret
    exact ⟨_, rfl, by rw [HF.out]; exact OwnI.nil _ _, (by repeat (first | exact Ext.refl _ | assumption | refine Ext.alloc ?_ _ | refine Ext.drew ?_ | refine Ext.trans ?_ (by assumption)))⟩
  have hg : gnB rule sz vs k = true := by rw [HGV.out, hp, hi]; rfl
  rw [hp] at HP
  rw [hi] at HIN
  clear hp hi HGV
  obtain ⟨n, kn, x, rfl, rfl, h0, n4, r1, r2, hx⟩ := gn_ok hg
  have hsz := prof_size h0
  have n1 : 1 ≤ n := by omega
  have n2 : n ≤ 5 := by omega
  have HV : Hid (reaO rule n vs kn = upL n (fun a => (wayO (gnW rule n vs kn) (allO n) a).isSome)) := hide (by unfold reaO; rw [if_pos hg, Int.toNat_natCast, Int.toNat_natCast])
  have HWR : Hid (∀ w' ar cr r, Ext w w' → RdI w' ar r → rkOk n r = true → Calls Tryz.prog 95 #[.agg #[.int .i64 n, .slice a vs.length c], .int .i64 kn, .slice ar r.length cr] w' fun e w'' => ∃ a' c', e = .returned (.tuple #[.agg #[.int .i64 n, .slice a' vs.length c'], .bool true]) ∧ RdV w'' a' (vs.set kn (r, x.2)) ∧ Ext w' w'') := fun w' ar cr r hw' hRr hr => withR_spec w' n a ar c cr kn vs r x hx (hR.ext hw') hRr h0 hr
  obtain ⟨W, hW⟩ : ∃ W, W = gnW rule n vs kn := ⟨_, rfl⟩
  have HWI : Hid (∀ w' a3 c3 r, RdV w' a3 (vs.set kn (r, x.2)) → Calls Tryz.prog 16 #[.int .i64 rule, .agg #[.int .i64 n, .slice a3 vs.length c3]] w' fun e w'' => e = .returned (.int .i64 (W r)) ∧ Ext w' w'') := fun w' a3 c3 r hR3 => by
    have h := winb_spec w' rule n a3 c3 _ hR3
    rw [List.length_set] at h
    rw [hW, show gnW rule n vs kn r = winB rule n (vs.set kn (r, x.2)) by unfold gnW; rw [show vs.getD kn ([], 0) = x by simp [List.getD, hx]]]
    exact h
  have HWL : Hid (∀ r, rkOk n r = true → ∃ y : Nat, y < n ∧ W r = y) := fun r hr => by rw [hW]; exact gnW_lt h0 r1 r2 hx hr
  rw [← hW] at HV
  obtain ⟨i0, hi, hz0, hz1, hz2⟩ := info_parts info_bool
  have hmk := fun W => run_make_rowN (P := Tryz.prog) 74 4 i0 _ Tryz.underlying74 hi hz0 .i64 .i64 n n (Nat.le_refl _) (by rw [hz2]; omega) (by omega) W
  rw [hz1, Nat.mul_one] at hmk
  clear hg hW h0 hx
  go_enter Tryz.func44, Tryz.ntmps44
  have y0 := HY.out
  go_wp2_with (first | (go_at_call 90; refine (HP.out _ (by repeat (first | exact Ext.refl _ | assumption | refine Ext.alloc ?_ _ | refine Ext.drew ?_ | refine Ext.trans ?_ (by assumption)))).mono ?_; rintro e w1 ⟨rfl, hw1⟩; have q0 := Ext.keep (w' := w1) (by repeat (first | exact Ext.refl _ | assumption | refine Ext.alloc ?_ _ | refine Ext.drew ?_ | refine Ext.trans ?_ (by assumption))) q0; have q1 := Ext.keep (w' := w1) (by repeat (first | exact Ext.refl _ | assumption | refine Ext.alloc ?_ _ | refine Ext.drew ?_ | refine Ext.trans ?_ (by assumption))) q1) | (go_at_call 69; refine (HIN.out _).mono ?_; rintro e w1 ⟨rfl, hw1⟩; have q0 := Ext.keep (w' := w1) (by repeat (first | exact Ext.refl _ | assumption | refine Ext.alloc ?_ _ | refine Ext.drew ?_ | refine Ext.trans ?_ (by assumption))) q0; have q1 := Ext.keep (w' := w1) (by repeat (first | exact Ext.refl _ | assumption | refine Ext.alloc ?_ _ | refine Ext.drew ?_ | refine Ext.trans ?_ (by assumption))) q1))
  clear y0 hmk hi hz0 hz1 hz2 HP HIN HY
  have hwA : Ext w w1 := (by repeat (first | exact Ext.refl _ | assumption | refine Ext.alloc ?_ _ | refine Ext.drew ?_ | refine Ext.trans ?_ (by assumption)))
  obtain ⟨wA, hwA'⟩ : ∃ wA : World, wA = w1 := ⟨_, rfl⟩
  subst hwA'
  have hB := BlkF.new wA (madeCells #[.bool false] n) 4
  rw [size_madeCells] at hB
  have hB := hB.congr (f' := fun o => .bool (wayO W ((allO n).take 0) (o : Int)).isSome) (fun o ho => by
    have h := made_bool n o ho
    rw [show (wayO W ((allO n).take 0) (o : Int)).isSome = false by simp [wayO]]
    exact h)
  have h20 := Ext.new wA (.cells (madeCells #[.bool false] n) 4)
  have hglt := hB.lt
  obtain ⟨g, hg⟩ : ∃ g : Nat, g = wA.heap.size := ⟨_, rfl⟩
  generalize wA.alloc (.cells (madeCells #[.bool false] n) 4) = W0 at hB h20 hglt ⊢
  rw [← hg] at hB hglt ⊢
  have hwg : w.heap.size ≤ g := by rw [hg]; exact hwA.size
  have hq0 : w.heap.size < g := by
    have h := World.block_lt_of_cell? wA ⟨w.heap.size, 0, none⟩ q0
    rw [hg]; exact h
  have q0 := h20.keep q0
  have q1 := h20.keep q1
  clear hg
  refine (allR_spec _ n n1 n2).mono ?_
  rintro e w3 ⟨v, rfl, hv, hw3⟩
  have HM : Hid (∀ r ∈ allO n, rkOk n r = true) := fun r hr => (allO_mem n1 n2).1 hr
  have hrl : (allO n).length ≤ 3125 := Nat.le_trans (allS_len n2 n []) (Nat.pow_le_pow_right (n := 5) (by decide) n2)
  generalize hrw : allO n = rows at hv HM hrl HV hB
  clear hrw
  have hv := hv.wr
  have hv' := hv
  obtain ⟨av, cv, rfl, hcv, hju⟩ := hv'
  clear hju
  have hB := hB.ext hw3
  have Q0 := hw3.keep q0
  have Q1 := hw3.keep q1
  have hwc : Ext w w3 := hwA.trans (h20.trans hw3)
  obtain ⟨B, hBB⟩ : ∃ B, B = W0.heap.size := ⟨_, rfl⟩
  rw [← hBB] at hv hglt
  clear hBB h20 hw3
  obtain ⟨wc, hwcc⟩ : ∃ wc : World, wc = w3 := ⟨_, rfl⟩
  subst hwcc
  go_wp2_with fail
  go_loopw [9, 10, 11, 35] (fun _ _ _ i wr => ∃ m : Nat, m ≤ rows.length ∧ i = .int .i64 m ∧ BlkF wr g n (fun o => .bool (wayO W (rows.take m) (o : Int)).isSome) ∧ Only g wc wr) (fun _ _ _ i _ => rows.length - (intOf i).toNat)
  case atStart => exact ⟨0, Nat.zero_le _, rfl, hB, Only.refl _ _⟩
  case round =>
    clear hB
    obtain ⟨m, hm, rfl, hB, hon⟩ := hrel
    by_cases hmt : m < rows.length
    · obtain ⟨r, hr⟩ := at_of_lt hmt
      have hEr : Ext w wr := Only.ext hwc hon (by omega)
      obtain ⟨g2, c3, a3, c4, hav, d0, hc4, hO⟩ := (hv.rng (lo := g) (hi := g + 1) (by omega) (Rng.of_only hon (Nat.le_refl _) (by omega))).own hr
      injection hav with hav hav2 hav3
      subst hav
      subst hav3
      clear hav2
      have hrk := HM.out r (List.mem_of_getElem? hr)
      obtain ⟨y, hy, hWy⟩ := HWL.out r hrk
      have HWA := hide (wayO_at (W := W) hr)
      have HWY := hide hWy
      have HWRr := hide (HWR.out wr a3 c4 r hEr hO.rdI hrk)
      have q0 := hon.keep (by dsimp only; omega) Q0
      have q1 := hon.keep (by dsimp only; omega) Q1
      have hm1 : m + 1 ≤ rows.length := by omega
      have yi : (y : Int) < (n : Int) := by omega
      have yj : (0 : Int) ≤ (y : Int) := by omega
      clear hr hrk hO hWy
      go_wp2_with fail
      refine HWRr.out.mono ?_
      rintro e w4 ⟨a4, c6, rfl, hR4, hw4⟩
      have hE5 := Ext.new w4 (.cells #[.int .i64 n, .slice a4 vs.length c6] 29)
      have HWJ := HWI.out (w4.alloc (.cells #[.int .i64 n, .slice a4 vs.length c6] 29)) a4 c6 r (hR4.ext hE5)
      rw [HWY.out] at HWJ
      have HWJ := hide HWJ
      clear hR4 HWRr
      go_wp2_with fail
      refine HWJ.out.mono ?_
      rintro e w5 ⟨rfl, hw5⟩
      have hE6 : Ext wr w5 := hw4.trans (hE5.trans hw5)
      have hB6 := hB.ext hE6
      obtain ⟨bv, hbv⟩ : ∃ bv, bv = (wayO W (rows.take m) (y : Int)).isSome := ⟨_, rfl⟩
      have cy := hB6.cell y hy
      rw [← hbv] at cy
      have zy := hB6.fr y
      have HB6 := hide hB6
      clear hB hB6 hbv
      go_wp2
      have hOg : Only g w5 (w5.setCell ⟨g, y, none⟩ (.bool true)) := (Only.refl g w5).setCell _ _
      refine ⟨⟨m + 1, hm1, by go_num, (HB6.out.set y hy (.bool true)).congr (fun o ho => ?_), (hon.trans (Only.of_ext hE6)).trans hOg⟩, by simp [intOf]; omega⟩
      rw [HWA.out]
      by_cases e : o = y
      · subst e
        rw [if_pos rfl, HWY.out]
        cases hs : (wayO W (rows.take m) (o : Int)).isSome
        · rw [if_pos ⟨rfl, rfl⟩]; rfl
        · rw [if_neg (by simp), hs]
      · rw [if_neg e, if_neg (fun h => e (by have := h.2; rw [HWY.out] at this; omega))]
    · have hml : m = rows.length := by omega
      rw [hml, List.take_length] at hB
      have hEr : Ext w wr := Only.ext hwc hon (by omega)
      have hO2 := OwnI.made0 wr
      have hE2 := Ext.new wr (.cells #[] 3)
      have hB2 := hB.ext hE2
      have HBo := hide hB
      clear hml hB
      obtain ⟨wo, hwo⟩ : ∃ wo : World, wo = wr := ⟨_, rfl⟩
      subst hwo
      go_wp2_with fail
      generalize wo.alloc (.cells #[] 3) = W1 at hO2 hE2 hB2 ⊢
      go_loopw [12, 13, 14, 55] (fun v _ _ i wr => ∃ j : Nat, j ≤ n ∧ i = .int .i64 j ∧ OwnI wr wo.heap.size v (upL j (fun a => (wayO W rows (a : Int)).isSome)) ∧ Ext wo wr) (fun _ _ _ i _ => n - (intOf i).toNat)
      case atStart => exact ⟨0, Nat.zero_le _, rfl, hO2, hE2⟩
      case round =>
        clear hO2 hE2 hB2
        obtain ⟨j, hj, rfl, hown, hwr⟩ := hrel
        have hul := upL_len j (fun a => (wayO W rows (a : Int)).isSome)
        by_cases hjt : j < n
        · have cj := hwr.keep (HBo.out.cell j hjt)
          have hj1 : j + 1 ≤ n := by omega
          have hul2 : (upL j (fun a => (wayO W rows (a : Int)).isSome)).length ≤ 2000000 := by omega
          have HS := hide (upL_succ j (fun a => (wayO W rows (a : Int)).isSome))
          have HE := hide hEr
          cases hs : (wayO W rows (j : Int)).isSome
          · rw [hs] at cj
            have HN : Hid (upL (j + 1) (fun a => (wayO W rows (a : Int)).isSome) = upL j (fun a => (wayO W rows (a : Int)).isSome)) := hide (by rw [HS.out, hs]; simp)
            clear hs HS hEr
            go_wp2
            exact ⟨⟨j + 1, hj1, by go_num, by rw [HN.out]; exact hown, hwr⟩, by simp [intOf]; omega⟩
          · rw [hs] at cj
            have HN : Hid (upL (j + 1) (fun a => (wayO W rows (a : Int)).isSome) = upL j (fun a => (wayO W rows (a : Int)).isSome) ++ [(j : Int)]) := hide (by rw [HS.out, hs]; rfl)
            clear hs HS hEr
            go_wp2_with (at_builtin; refine wpList_appI wo _ rfl _ _ rfl _ (upL j (fun a => (wayO W rows (a : Int)).isSome)) _ rfl (hown.ext (by repeat (first | exact Ext.refl _ | assumption | refine Ext.alloc ?_ _ | refine Ext.drew ?_ | refine Ext.trans ?_ (by assumption)))) (by repeat (first | exact Ext.refl _ | assumption | refine Ext.alloc ?_ _ | refine Ext.drew ?_ | refine Ext.trans ?_ (by assumption))) rfl hul2 ?_; intro v' w3 hown3 hw3)
            exact ⟨⟨j + 1, hj1, by go_num, by rw [HN.out]; exact hown3, (by repeat (first | exact Ext.refl _ | assumption | refine Ext.alloc ?_ _ | refine Ext.drew ?_ | refine Ext.trans ?_ (by assumption)))⟩, by simp [intOf]; omega⟩
        · have hjn : j = n := by omega
          subst hjn
          have hws := hEr.size
          go_wp2
          go_ret
          exact ⟨_, rfl, by rw [HV.out]; exact hown.base hws, hEr.trans hwr⟩

end Go.Proofs.YtblkbdfndbpndaaGreat
