/- Profiles with the same merged votes; renamed profiles, of the program. DropCandidate of the program where there is one candidate. -/
import Derived.Test.YtkbbcglghfddjaaCf21
import Derived.Test.YtkbbcglghfddjaaCf24
namespace Go.Proofs.Ytkbbcglghfddjaa
open Go.RowKit

set_option maxRecDepth 100000 in
set_option maxHeartbeats 2000000 in
theorem eqv_one (w : World) (a1 a2 : Option Addr) (c1 c2 : Nat) (xs : List Int) (y : Int) (hX : RdI w a1 xs) (hY : RdI w a2 xs) (hl : xs.length ≤ 2000000) :
    Calls Try.prog 73 (#[] ++ (#[.agg #[.slice a1 xs.length c1, .int .i64 y], .agg #[.slice a2 xs.length c2, .int .i64 y]] ++ #[])) w fun e w' => e = .returned (.bool true) ∧ Ext w w' := by
  show Calls Try.prog 73 #[.agg #[.slice a1 xs.length c1, .int .i64 y], .agg #[.slice a2 xs.length c2, .int .i64 y]] w _
  have HQ : Hid (∀ W, Ext w W → Calls Try.prog 71 #[.slice a1 xs.length c1, .slice a2 xs.length c2] W fun e w' => e = .returned (.bool true) ∧ Ext W w') := hide (fun W hW => by
    have := equ_impl W a1 a2 c1 c2 xs xs (hX.ext hW) (hY.ext hW) hl
    rw [decide_eq_true (rfl : xs = xs)] at this
    exact this)
  go_enter Try.func73, Try.ntmps73
  go_wp2_with (go_at_call 71; refine (HQ.out _ (by repeat (first | exact Ext.refl _ | assumption | refine Ext.alloc ?_ _ | refine Ext.drew ?_ | refine Ext.trans ?_ (by assumption)))).mono ?_; rintro e w1 ⟨rfl, hw1⟩)
  go_ret
  exact ⟨rfl, (by repeat (first | exact Ext.refl _ | assumption | refine Ext.alloc ?_ _ | refine Ext.drew ?_ | refine Ext.trans ?_ (by assumption)))⟩

set_option maxRecDepth 100000 in
set_option maxHeartbeats 2000000 in
theorem eqfV (K : Nat) (fst cap : Array Value) (w : World) (a1 a2 : Option Addr) (c1 c2 : Nat) (vs : List Vt) (hX : RdV w a1 vs) (hY : RdV w a2 vs) (hl : vs.length ≤ 2000000) (hK : Enters Try.prog K)
    (hf : ∀ (x : Vt) (a' a'' : Option Addr) (c' c'' : Nat) (w' : World), x ∈ vs → RdI w' a' x.1 → RdI w' a'' x.1 → Ext w w' → Calls Try.prog K (fst ++ (#[.agg #[.slice a' x.1.length c', .int .i64 x.2], .agg #[.slice a'' x.1.length c'', .int .i64 x.2]] ++ cap)) w' fun e w'' => e = .returned (.bool true) ∧ Ext w' w'') :
    Calls Try.prog 74 #[.slice a1 vs.length c1, .slice a2 vs.length c2, .func (.func K) fst cap] w fun e w' => e = .returned (.bool true) ∧ Ext w w' := by
  unfold Enters at hK
  have HF := hide hf
  clear hf
  go_enter Try.func74, Try.ntmps74
  go_wp2_with fail
  go_loopw [7, 8, 9, 17] (fun _ _ _ i wr => ∃ k : Nat, k ≤ vs.length ∧ i = .int .i64 k ∧ Ext w wr) (fun _ _ _ i _ => vs.length - (intOf i).toNat)
  case atStart => exact ⟨0, Nat.zero_le _, rfl, Ext.refl _⟩
  case round =>
    obtain ⟨k, hk, rfl, hwr⟩ := hrel
    by_cases hlt : k < vs.length
    · obtain ⟨x, hx⟩ := at_of_lt hlt
      obtain ⟨b, off, a', c', rfl, x0, x1, _, hRx⟩ := (hX.ext hwr).at_ hx
      obtain ⟨b2, off2, a'', c'', rfl, y0, y1, _, hRy⟩ := (hY.ext hwr).at_ hx
      have HC := hide (fun (W : World) (hW : Ext wr W) => HF.out x a' a'' c' c'' W (List.mem_of_getElem? hx) (hRx.ext hW) (hRy.ext hW) (hwr.trans hW))
      have e0 := new0 wr (.slice a' x.1.length c') [.int .i64 x.2] 59
      have e1 := new1 wr (.slice a' x.1.length c') (.int .i64 x.2) [] 59
      clear hx hRx hRy
      go_wp2_with fail
      refine (HC.out _ (by repeat (first | exact Ext.refl _ | assumption | refine Ext.alloc ?_ _ | refine Ext.drew ?_ | refine Ext.trans ?_ (by assumption)))).mono ?_
      rintro e w1 ⟨rfl, hw1⟩
      go_wp2
      exact ⟨⟨k + 1, by omega, by go_num, hwr.trans (by repeat (first | exact Ext.refl _ | assumption | refine Ext.alloc ?_ _ | refine Ext.drew ?_ | refine Ext.trans ?_ (by assumption)))⟩, by simp [intOf]; omega⟩
    · go_wp2
      go_ret
      exact ⟨rfl, hwr⟩

set_option maxRecDepth 100000 in
set_option maxHeartbeats 2000000 in
theorem peq_impl (w : World) (n : Int) (a1 a2 : Option Addr) (c1 c2 : Nat) (vs : List Vt) (hX : RdV w a1 vs) (hY : RdV w a2 vs) (hl : vs.length ≤ 2000) (hr : ∀ x ∈ vs, x.1.length ≤ 2000000) :
    Calls Try.prog 44 #[.agg #[.int .i64 n, .slice a1 vs.length c1], .agg #[.int .i64 n, .slice a2 vs.length c2]] w fun e w' => e = .returned (.bool true) ∧ Ext w w' := by
  have HQ : Hid (∀ W, Ext w W → Calls Try.prog 74 #[.slice a1 vs.length c1, .slice a2 vs.length c2, .func (.func 73) #[] #[]] W fun e w' => e = .returned (.bool true) ∧ Ext W w') := hide (fun W hW =>
    eqfV 73 #[] #[] W a1 a2 c1 c2 vs (hX.ext hW) (hY.ext hW) (by omega) Try.call73 (fun x a' a'' c' c'' w' hx h1 h2 _ => eqv_one w' a' a'' c' c'' x.1 x.2 h1 h2 (hr x hx)))
  clear hX hY hr
  go_enter Try.func44, Try.ntmps44
  go_wp2_with fail
  refine (HQ.out _ (by repeat (first | exact Ext.refl _ | assumption | refine Ext.alloc ?_ _ | refine Ext.drew ?_ | refine Ext.trans ?_ (by assumption)))).mono ?_
  rintro e w1 ⟨rfl, hw1⟩
  go_wp2
  go_ret
  exact ⟨rfl, (by repeat (first | exact Ext.refl _ | assumption | refine Ext.alloc ?_ _ | refine Ext.drew ?_ | refine Ext.trans ?_ (by assumption)))⟩

set_option maxRecDepth 100000 in
set_option maxHeartbeats 4000000 in
theorem same_impl (w : World) (n : Nat) (a1 a2 : Option Addr) (c1 c2 : Nat) (vs us : List Vt) (hX : RdV w a1 vs) (hY : RdV w a2 us) (h1 : profOk n vs = true) (h2 : profOk n us = true) (hv : allV vs ≤ 1000) (hu : allV us ≤ 1000) (he : mrgV n us = mrgV n vs) :
    Calls Try.prog 12 #[.agg #[.int .i64 n, .slice a1 vs.length c1], .agg #[.int .i64 n, .slice a2 us.length c2]] w fun e w' => e = .returned (.bool true) ∧ Ext w w' := by
  have q0 := new0 w (.int .i64 n) [.slice a1 vs.length c1] 26
  have q1 := new1 w (.int .i64 n) (.slice a1 vs.length c1) [] 26
  have hE1 := Ext.new w (.cells #[.int .i64 n, .slice a1 vs.length c1] 26)
  generalize hW1 : w.alloc (.cells #[.int .i64 n, .slice a1 vs.length c1] 26) = W1 at q0 q1 hE1
  have r0 := new0 W1 (.int .i64 n) [.slice a2 us.length c2] 26
  have r1 := new1 W1 (.int .i64 n) (.slice a2 us.length c2) [] 26
  have hE2 := Ext.new W1 (.cells #[.int .i64 n, .slice a2 us.length c2] 26)
  have hs1 : W1.heap.size = w.heap.size + 1 := by rw [← hW1]; simp
  rw [hs1] at r0 r1
  subst hW1
  have hm24 : (mrgV n vs).length ≤ 24 := (prof_small (mrg_ok h1 hv)).1
  have HRL : Hid (∀ x ∈ mrgV n vs, x.1.length ≤ 2000000) := hide (fun x hx => by have := (rk_len ((prof_small (mrg_ok h1 hv)).2 x hx).1).2; omega)
  have HM1 := hide (fun W (hW : Ext w W) => mrg_impl W n a1 c1 vs (hX.ext hW) h1 hv)
  have HM2 := hide (fun W (hW : Ext w W) => mrg_impl W n a2 c2 us (hY.ext hW) h2 hu)
  rw [he] at HM2
  generalize mrgV n vs = ms at HM1 HM2 hm24 HRL
  clear he h1 h2 hv hu hX hY
  go_enter Try.func12, Try.ntmps12
  go_wp2_with fail
  refine (HM1.out _ (by repeat (first | exact Ext.refl _ | assumption | refine Ext.alloc ?_ _ | refine Ext.drew ?_ | refine Ext.trans ?_ (by assumption)))).mono ?_
  rintro e w1 ⟨b1, d1, rfl, hR1, _, hw1⟩
  have hEw : Ext w w1 := (by repeat (first | exact Ext.refl _ | assumption | refine Ext.alloc ?_ _ | refine Ext.drew ?_ | refine Ext.trans ?_ (by assumption)))
  have r0 := Ext.keep (w' := w1) (by repeat (first | exact Ext.refl _ | assumption | refine Ext.alloc ?_ _ | refine Ext.drew ?_ | refine Ext.trans ?_ (by assumption))) r0
  have r1 := Ext.keep (w' := w1) (by repeat (first | exact Ext.refl _ | assumption | refine Ext.alloc ?_ _ | refine Ext.drew ?_ | refine Ext.trans ?_ (by assumption))) r1
  have e0 := new0 w1 (.int .i64 n) [.slice b1 ms.length d1] 26
  have e1 := new1 w1 (.int .i64 n) (.slice b1 ms.length d1) [] 26
  have hE3 := Ext.new w1 (.cells #[.int .i64 n, .slice b1 ms.length d1] 26)
  clear q0 q1 hE1 hE2 hw1
  go_wp2_with fail
  refine (HM2.out _ (hEw.trans hE3)).mono ?_
  rintro e w2 ⟨b2, d2, rfl, hR2, _, hw2⟩
  have hR1 := (hR1.ext hE3).ext hw2
  have e0 := hw2.keep e0
  have e1 := hw2.keep e1
  have f0 := new0 w2 (.int .i64 n) [.slice b2 ms.length d2] 26
  have f1 := new1 w2 (.int .i64 n) (.slice b2 ms.length d2) [] 26
  have hE4 := Ext.new w2 (.cells #[.int .i64 n, .slice b2 ms.length d2] 26)
  have hE5 := ((hEw.trans hE3).trans hw2).trans hE4
  have e0 := hE4.keep e0
  have e1 := hE4.keep e1
  have HP := hide (fun W (hW : Ext w2 W) => peq_impl W n b1 b2 d1 d2 ms (hR1.ext hW) (hR2.ext hW) (by omega) HRL.out)
  clear hR1 hR2 r0 r1 hw2 hE3
  go_wp2_with fail
  refine (HP.out _ hE4).mono ?_
  rintro e w3 ⟨rfl, hw3⟩
  go_wp2
  go_ret
  exact ⟨rfl, hE5.trans hw3⟩

set_option maxRecDepth 100000 in
set_option maxHeartbeats 2000000 in
theorem ren_one (w : World) (g n : Nat) (a1 a2 : Option Addr) (c1 c2 : Nat) (ns xs : List Int) (hN : rkOk n ns = true) (hx : rkOk n xs = true) (h : w.cell? ⟨g, 0, none⟩ = some (.slice a2 n c2)) (hX : RdI w a1 xs) (hY : RdI w a2 ns) :
    Calls Try.prog 43 #[.slice a1 xs.length c1, .pointer (some ⟨g, 0, none⟩)] w fun e w' => ∃ u, e = .returned u ∧ OwnI w' w.heap.size u (renL ns xs) ∧ Ext w w' := by
  have hl := (rk_len hx).2
  have hnl := (rk_len hN).1
  have HB := hide (fun y (hy : y ∈ xs) => rk_mem hx hy)
  have HG : Hid (∀ y : Nat, y < n → ns[y]? = some (ns.getD y 0)) := hide (fun y hy => by
    obtain ⟨z, hz⟩ := at_of_lt (xs := ns) (k := y) (by omega)
    rw [hz]
    simp [List.getD, hz])
  clear hN hx hnl
  go_enter Try.func43, Try.ntmps43
  go_wp2_with fail
  go_loopw [4, 6, 9] (fun v _ i wr => ∃ k : Nat, k ≤ xs.length ∧ i = .int .i64 k ∧ OwnI wr w.heap.size v (renL ns (xs.take k)) ∧ Ext w wr) (fun _ _ i _ => xs.length - (intOf i).toNat)
  case atStart => exact ⟨0, Nat.zero_le _, rfl, OwnI.nil _ _, Ext.refl _⟩
  case round =>
    obtain ⟨k, hk, rfl, hown, hwr⟩ := hrel
    have r0 := hwr.keep h
    by_cases hlt : k < xs.length
    · obtain ⟨x, hx⟩ := at_of_lt hlt
      obtain ⟨b, off, rfl, c0⟩ := (hX.ext hwr).at_ hx
      obtain ⟨x0, x1⟩ := HB.out x (List.mem_of_getElem? hx)
      obtain ⟨y, rfl⟩ := Int.eq_ofNat_of_zero_le x0
      have hyn : y < n := by omega
      obtain ⟨b2, off2, rfl, d0⟩ := (hY.ext hwr).at_ (HG.out y hyn)
      have HT : Hid (renL ns (xs.take (k + 1)) = renL ns (xs.take k) ++ [ns.getD y 0]) := hide (by
        unfold renL
        rw [take_at hx, List.map_append]
        simp)
      have hll : (renL ns (xs.take k)).length ≤ 2000000 := by unfold renL; rw [List.length_map, List.length_take]; omega
      clear hx
      generalize ns.getD y 0 = z at d0 HT
      go_wp2_with (at_builtin; refine wpList_appI w _ rfl _ _ rfl _ (renL ns (xs.take k)) _ rfl (hown.ext (by repeat (first | exact Ext.refl _ | assumption | refine Ext.alloc ?_ _ | refine Ext.drew ?_ | refine Ext.trans ?_ (by assumption)))) (by repeat (first | exact Ext.refl _ | assumption | refine Ext.alloc ?_ _ | refine Ext.drew ?_ | refine Ext.trans ?_ (by assumption))) rfl hll ?_; intro v' w3 hown3 hw3)
      exact ⟨⟨k + 1, by omega, by go_num, by rw [HT.out]; exact hown3, (by repeat (first | exact Ext.refl _ | assumption | refine Ext.alloc ?_ _ | refine Ext.drew ?_ | refine Ext.trans ?_ (by assumption)))⟩, by simp [intOf]; omega⟩
    · have hke : xs.take k = xs := List.take_of_length_le (by omega)
      rw [hke] at hown
      clear hke
      go_wp2
      go_ret
      exact ⟨_, rfl, hown, hwr⟩

set_option maxRecDepth 100000 in
set_option maxHeartbeats 4000000 in
theorem renP_impl (w : World) (n : Nat) (a a2 : Option Addr) (c c2 : Nat) (vs : List Vt) (ns : List Int) (hR : RdV w a vs) (h0 : profOk n vs = true) (hN : rkOk n ns = true) (hRn : RdI w a2 ns) (hc2 : n ≤ c2) :
    Calls Try.prog 11 #[.agg #[.int .i64 n, .slice a vs.length c], .slice a2 n c2] w fun e w' => ∃ v es, e = .returned (.tuple #[.agg #[.int .i64 n, v], .bool true]) ∧ LstV w' w.heap.size v es ∧ vtsOf es = mapV (renL ns) vs ∧ Ext w w' := by
  have hnl : ns.length = n := by have := (rk_len hN).1; omega
  have HC : Hid (∀ w' gy, Ext w w' → w'.cell? ⟨gy, 0, none⟩ = some (.slice a2 n c2) → Calls Try.prog 40 #[.agg #[.int .i64 n, .slice a vs.length c], .int .i64 n, .func (.func 43) #[] #[.pointer (some ⟨gy, 0, none⟩)]] w' fun e w'' => ∃ v es, e = .returned (.tuple #[.agg #[.int .i64 n, v], .bool true]) ∧ LstV w'' w'.heap.size v es ∧ vtsOf es = mapV (renL ns) vs ∧ Ext w' w'') := fun w' gy hw' hgy =>
    chg_impl 43 #[] #[.pointer (some ⟨gy, 0, none⟩)] (renL ns) w' n n a c vs (hR.ext hw') h0 Try.call43 (fun x a' c' w2 hx hw2 hRx _ => by
      show Calls Try.prog 43 #[.slice a' x.1.length c', .pointer (some ⟨gy, 0, none⟩)] w2 _
      exact ren_one w2 gy n a' a2 c' c2 ns x.1 hN ((prof_small h0).2 x hx).1 (hw2.keep hgy) hRx ((hRn.ext hw').ext hw2))
  have HK : Hid (∀ W, Ext w W → Calls Try.prog 42 #[.int .i64 n, .slice a2 n c2] W fun e w' => e = .returned (.bool true) ∧ Ext W w') := hide (fun W hW => by
    have h := rank_impl W n a2 c2 ns (hRn.ext hW) (by omega)
    rw [hN, hnl] at h
    exact h)
  have q0 := new0 w (.int .i64 n) [.slice a vs.length c] 26
  have q1 := new1 w (.int .i64 n) (.slice a vs.length c) [] 26
  have hE1 := Ext.new w (.cells #[.int .i64 n, .slice a vs.length c] 26)
  have hs0 : (w.alloc (.cells #[.int .i64 n, .slice a vs.length c] 26)).heap.size = w.heap.size + 1 := by simp
  have y00 := new0 (w.alloc (.cells #[.int .i64 n, .slice a vs.length c] 26)) (.slice a2 n c2) [] 31
  have hE2 := Ext.new (w.alloc (.cells #[.int .i64 n, .slice a vs.length c] 26)) (.cells #[.slice a2 n c2] 31)
  have hs1 : ((w.alloc (.cells #[.int .i64 n, .slice a vs.length c] 26)).alloc (.cells #[.slice a2 n c2] 31)).heap.size = w.heap.size + 2 := by simp
  have p0 := BlkF.new ((w.alloc (.cells #[.int .i64 n, .slice a vs.length c] 26)).alloc (.cells #[.slice a2 n c2] 31)) #[.int .i64 0, .slice none 0 0] 26
  have hE3 := Ext.new ((w.alloc (.cells #[.int .i64 n, .slice a vs.length c] 26)).alloc (.cells #[.slice a2 n c2] 31)) (.cells #[.int .i64 0, .slice none 0 0] 26)
  have hs2 : (((w.alloc (.cells #[.int .i64 n, .slice a vs.length c] 26)).alloc (.cells #[.slice a2 n c2] 31)).alloc (.cells #[.int .i64 0, .slice none 0 0] 26)).heap.size = w.heap.size + 3 := by simp
  rw [hs0] at y00
  rw [hs1] at p0
  clear h0 hN hnl hc2
  go_enter Try.func11, Try.ntmps11
  go_wp2_with (go_at_call 42; refine (HK.out _ (by repeat (first | exact Ext.refl _ | assumption | refine Ext.alloc ?_ _ | refine Ext.drew ?_ | refine Ext.trans ?_ (by assumption)))).mono ?_; rintro e w1 ⟨rfl, hw1⟩; have q0 := Ext.keep (w' := w1) (by repeat (first | exact Ext.refl _ | assumption | refine Ext.alloc ?_ _ | refine Ext.drew ?_ | refine Ext.trans ?_ (by assumption))) q0; have q1 := Ext.keep (w' := w1) (by repeat (first | exact Ext.refl _ | assumption | refine Ext.alloc ?_ _ | refine Ext.drew ?_ | refine Ext.trans ?_ (by assumption))) q1; have y00 := Ext.keep (w' := w1) (by repeat (first | exact Ext.refl _ | assumption | refine Ext.alloc ?_ _ | refine Ext.drew ?_ | refine Ext.trans ?_ (by assumption))) y00)
  have HC2 := hide (fun w' => HC.out w' (w.heap.size + 1))
  clear HC
  have hw : Ext w w1 := (by repeat (first | exact Ext.refl _ | assumption | refine Ext.alloc ?_ _ | refine Ext.drew ?_ | refine Ext.trans ?_ (by assumption)))
  have p1 := p0.ext hw1
  have hszw := hw1.size
  refine (HC2.out _ hw y00).mono ?_
  rintro e w2 ⟨v, es, rfl, hl, hm, hw2⟩
  have p1 := p1.ext hw2
  have r0 := p1.cell 0 (by simp)
  have r1 := p1.cell 1 (by simp)
  have z0 := p1.fr 0
  have z1 := p1.fr 1
  obtain ⟨av, cv, rfl, _⟩ := hl.form
  have HL := hide hl
  have HM := hide hm
  clear hl hm p1 p0 HC2
  go_wp2
  have hO1 : Only (w.heap.size + 2) w2 ((w2.setCell ⟨w.heap.size + 2, 0, none⟩ (.int .i64 n)).setCell ⟨w.heap.size + 2, 1, none⟩ (.slice av es.length cv)) := ((Only.refl _ w2).setCell 0 _).setCell 1 _
  refine bodyPost_ret (v := .tuple #[.agg #[.int .i64 n, .slice av es.length cv], .bool true]) (by simp [results, Try.results11, go_sem, r0, r1]) rfl ⟨_, es, rfl, (HL.out.only (by omega) hO1).base (by omega), HM.out, Only.ext (hw.trans hw2) hO1 (by omega)⟩

set_option maxRecDepth 100000 in
set_option maxHeartbeats 1000000 in
theorem has_anyA (w : World) (sz : Int) (a : Option Addr) (n c : Nat) (x : Int) :
    Calls Try.prog 46 #[.agg #[.int .i64 sz, .slice a n c], .int .i64 x] w fun e w' => e = .returned (.bool (inR x 0 (wrap64 (sz - 1)))) ∧ Ext w w' := by
  go_enter Try.func46, Try.ntmps46
  go_wp2_with (go_at_call 50; refine (in_impl _ _ _ _).mono ?_; rintro e w1 ⟨rfl, hw1⟩)
  go_ret
  exact ⟨rfl, (by repeat (first | exact Ext.refl _ | assumption | refine Ext.alloc ?_ _ | refine Ext.drew ?_ | refine Ext.trans ?_ (by assumption)))⟩

set_option maxRecDepth 100000 in
set_option maxHeartbeats 4000000 in
theorem drp_no2A (w : World) (a : Option Addr) (c : Nat) (vs : List Vt) (y : Int) (h0 : inR y 0 (wrap64 ((1 : Int) - 1)) = true) :
    Calls Try.prog 16 #[.agg #[.int .i64 1, .slice a vs.length c], .int .i64 y] w fun e w' => e = .returned (.tuple #[.agg #[.int .i64 0, .slice none 0 0], .bool false]) ∧ Ext w w' := by
  have q0 := new0 w (.int .i64 1) [.slice a vs.length c] 26
  have q1 := new1 w (.int .i64 1) (.slice a vs.length c) [] 26
  have hE1 := Ext.new w (.cells #[.int .i64 1, .slice a vs.length c] 26)
  have hs0 : (w.alloc (.cells #[.int .i64 1, .slice a vs.length c] 26)).heap.size = w.heap.size + 1 := by simp
  have y00 := new0 (w.alloc (.cells #[.int .i64 1, .slice a vs.length c] 26)) (.int .i64 y) [] 3
  have hE2 := Ext.new (w.alloc (.cells #[.int .i64 1, .slice a vs.length c] 26)) (.cells #[.int .i64 y] 3)
  have hs1 : ((w.alloc (.cells #[.int .i64 1, .slice a vs.length c] 26)).alloc (.cells #[.int .i64 y] 3)).heap.size = w.heap.size + 2 := by simp
  have p0 := BlkF.new ((w.alloc (.cells #[.int .i64 1, .slice a vs.length c] 26)).alloc (.cells #[.int .i64 y] 3)) #[.int .i64 0, .slice none 0 0] 26
  have hE3 := Ext.new ((w.alloc (.cells #[.int .i64 1, .slice a vs.length c] 26)).alloc (.cells #[.int .i64 y] 3)) (.cells #[.int .i64 0, .slice none 0 0] 26)
  rw [hs0] at y00
  rw [hs1] at p0
  have q0 := (hE2.trans hE3).keep q0
  have q1 := (hE2.trans hE3).keep q1
  have y00 := hE3.keep y00
  have hw3 : Ext w (((w.alloc (.cells #[.int .i64 1, .slice a vs.length c] 26)).alloc (.cells #[.int .i64 y] 3)).alloc (.cells #[.int .i64 0, .slice none 0 0] 26)) := hE1.trans (hE2.trans hE3)
  have HH : Hid (∀ w', Calls Try.prog 46 #[.agg #[.int .i64 1, .slice a vs.length c], .int .i64 y] w' fun e w'' => e = .returned (.bool true) ∧ Ext w' w'') := fun w' => by
    have h := has_anyA w' 1 a vs.length c y
    rw [h0] at h; exact h
  clear h0 hs0 hs1
  go_enter Try.func16, Try.ntmps16
  go_wp2_with fail
  refine (HH.out _).mono ?_
  rintro e w1 ⟨rfl, hw1⟩
  have p1 := p0.ext hw1
  have q0 := hw1.keep q0
  have q1 := hw1.keep q1
  have r0 := p1.cell 0 (by simp)
  have r1 := p1.cell 1 (by simp)
  have z0 := p1.fr 0
  have z1 := p1.fr 1
  clear p1
  clear p0
  go_wp2
  have hO1 : Only (w.heap.size + 2) w1 ((w1.setCell ⟨w.heap.size + 2, 0, none⟩ (.int .i64 0)).setCell ⟨w.heap.size + 2, 1, none⟩ (.slice none 0 0)) := ((Only.refl _ w1).setCell 0 _).setCell 1 _
  refine bodyPost_ret (v := .tuple #[.agg #[.int .i64 0, .slice none 0 0], .bool false]) (by simp [results, Try.results16, go_sem, r0, r1]) rfl ⟨rfl, Only.ext (hw3.trans hw1) hO1 (by omega)⟩

end Go.Proofs.Ytkbbcglghfddjaa
