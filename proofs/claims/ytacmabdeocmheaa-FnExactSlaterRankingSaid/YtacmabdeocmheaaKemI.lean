/- The distance of a ranking by swaps, of the program, and the first ranking with the least one. -/
import Derived.Test.YtacmabdeocmheaaLst
import Derived.Test.YtacmabdeocmheaaBk
namespace Go.Proofs.Ytacmabdeocmheaa
open Go.RowKit

set_option maxRecDepth 100000 in
set_option maxHeartbeats 1000000 in
theorem isRk_impl (w : World) (a : Option Addr) (c n : Nat) (xs : List Int) (hx : rkOk n xs = true) (hR : RdI w a xs) (hl : xs.length = n) (hc : n ≤ c) (n1 : inR (n : Int) 1 5 = true) :
    Calls Try.prog 206 #[.slice a n c] w fun e w' => e = .returned (.bool true) ∧ Ext w w' := by
  have h1 := rank_impl_n w n a c xs hR hl hc n1
  rw [hx] at h1
  have H1 := hide h1
  clear hx h1 hl hR
  go_enter Try.func206, Try.ntmps206
  go_wp2_with fail
  refine H1.out.mono ?_
  rintro e w1 ⟨rfl, hw1⟩
  go_wp2
  go_ret
  exact ⟨rfl, hw1⟩

set_option maxRecDepth 100000 in
set_option maxHeartbeats 4000000 in
theorem swap_impl (w : World) (a a2 : Option Addr) (c c2 : Nat) (n : Nat) (xs r : List Int) (hx : rkOk n xs = true) (hr : rkOk n r = true) (hR : RdI w a xs) (hR2 : RdI w a2 r) (hc : xs.length ≤ c) (hc2 : r.length ≤ c2) (n1 : inR (n : Int) 1 5 = true) :
    Calls Try.prog 220 #[.slice a xs.length c, .slice a2 r.length c2] w fun e w' => e = .returned (.int .i64 (swapN xs r : Nat)) ∧ Ext w w' := by
  have l1 := rk_len hx
  have l2 := rk_len hr
  have hxn : xs.length = n := by omega
  have hrn : r.length = n := by omega
  have n2 : n ≤ 5 := by omega
  have HX := hide hx
  have HR := hide hr
  have HXN := hide hxn
  have HRN := hide hrn
  rw [hxn] at hc
  rw [hrn] at hc2
  rw [hxn, hrn]
  clear hx hr l1 l2 hxn hrn
  obtain ⟨q, hq⟩ : ∃ q : Int → Int → Bool, q = fun y x => prefB r y x := ⟨_, rfl⟩
  have HQ : Hid (swapN xs r = bkI q xs) := hide (by rw [hq]; rfl)
  have HP : Hid (∀ (x y : Int) (w' : World), Ext w w' → Calls Try.prog 107 #[.slice a2 n c2, .int .i64 y, .int .i64 x] w' fun e w'' => e = .returned (.bool (q y x)) ∧ Ext w' w'') := fun x y w' hw' => by
    have h := pref_impl w' a2 c2 r y x (hR2.ext hw') (by rw [HRN.out]; omega)
    rw [HRN.out] at h
    rw [hq]
    exact h
  clear hq
  go_enter Try.func220, Try.ntmps220
  go_wp2_with (first
    | (go_at_call 206; refine (isRk_impl _ a c n xs HX.out (hR.ext (by repeat (first | exact Ext.refl _ | assumption | refine Ext.alloc ?_ _ | refine Ext.drew ?_ | refine Ext.trans ?_ (by assumption)))) HXN.out hc n1).mono ?_; rintro e w1 ⟨rfl, hw1⟩)
    | (go_at_call 206; refine (isRk_impl _ a2 c2 n r HR.out (hR2.ext (by repeat (first | exact Ext.refl _ | assumption | refine Ext.alloc ?_ _ | refine Ext.drew ?_ | refine Ext.trans ?_ (by assumption)))) HRN.out hc2 n1).mono ?_; rintro e w1 ⟨rfl, hw1⟩))
  have hw : Ext w w1 := (by repeat (first | exact Ext.refl _ | assumption | refine Ext.alloc ?_ _ | refine Ext.drew ?_ | refine Ext.trans ?_ (by assumption)))
  obtain ⟨wb, hwb⟩ : ∃ wb : World, wb = w1 := ⟨_, rfl⟩
  subst hwb
  clear hw1
  go_loopw [5, 6, 7, 9, 27, 35, 36, 37] (fun s _ _ _ i _ _ _ wr => ∃ j : Nat, j ≤ n ∧ i = .int .i64 j ∧ s = .int .i64 (bkTo q xs j : Nat) ∧ Ext wb wr) (fun _ _ _ _ i _ _ _ _ => n - (intOf i).toNat)
  case atStart => exact ⟨0, Nat.zero_le _, rfl, rfl, Ext.refl _⟩
  case round =>
    obtain ⟨j, hj, rfl, rfl, hwr⟩ := hrel
    have hbd := bkTo_bd q xs j
    rw [HXN.out] at hbd
    have hbd2 : bkTo q xs j ≤ 5 * 5 := Nat.le_trans hbd (Nat.mul_le_mul (by omega) n2)
    by_cases hjt : j < n
    · obtain ⟨x, hx⟩ := at_of_lt (xs := xs) (k := j) (by rw [HXN.out]; exact hjt)
      have hxm := List.mem_of_getElem? hx
      obtain ⟨b, off, rfl, c0⟩ := (hR.ext (hw.trans hwr)).at_ hx
      have hRd := (hR.ext (hw.trans hwr)).drop (n := off + (j + 1)) (j + 1) c (by rw [HXN.out]; exact hc) rfl
      have i1 : (j : Int) + 1 ≤ (c : Int) := by omega
      have i2 : j ≤ c := by omega
      have i3 : j + 1 ≤ c := by omega
      have i4 : j + 1 ≤ n := by omega
      have i7 : (j : Int) + 1 ≤ (n : Int) := by omega
      have i5 : ((j : Int) + 1).toNat = j + 1 := by omega
      have i6 : (0 : Int) ≤ (j : Int) + 1 := by omega
      have y1 : wrap64 ((j : Int) + 1) = (j : Int) + 1 := IntWalk.wrap64_in _ (by omega)
      have y2 : IntKind.i64.wrap ((j : Int) + 1) = (j : Int) + 1 := IntWalk.i64_in _ (by omega)
      have hgd : xs.getD j 0 = x := by simp [List.getD, hx]
      have hsu : bkTo q xs (j + 1) = bkTo q xs j + ((xs.drop (j + 1)).countP (fun y => q y x)) := by rw [bkTo, hgd]
      have HSU := hide hsu
      have hdl : (xs.drop (j + 1)).length = n - (j + 1) := by rw [List.length_drop, HXN.out]
      have HDL := hide hdl
      have HDM : Hid (∀ y ∈ xs.drop (j + 1), y ∈ xs) := fun y hy => List.mem_of_mem_drop hy
      clear hx hgd hsu hdl
      go_wp2_with fail
      all_goals
        first | rw [if_pos (by assumption)] at hRd | rw [if_neg (by assumption)] at hRd
        first | subst h | clear h
        clear i1 i2 i3 i4 i5 i6 i7 y1 y2
        generalize xs.drop (j + 1) = ys at hRd HSU HDL HDM
        obtain ⟨wo, hwo⟩ : ∃ wo : World, wo = wr := ⟨_, rfl⟩
        subst hwo
        go_loopw [5, 9, 37] (fun s _ i wr => ∃ m : Nat, m ≤ n - (j + 1) ∧ i = .int .i64 m ∧ s = .int .i64 ((bkTo q xs j : Int) + ((ys.take m).countP (fun y => q y x) : Int)) ∧ Ext wo wr) (fun _ _ i _ => n - (j + 1) - (intOf i).toNat)
        case atStart => exact ⟨0, Nat.zero_le _, rfl, by simp, Ext.refl _⟩
        case round =>
          obtain ⟨m, hm, rfl, rfl, hwr2⟩ := hrel
          by_cases hmt : m < n - (j + 1)
          · obtain ⟨y, hy⟩ := at_of_lt (xs := ys) (k := m) (by have := HDL.out; omega)
            obtain ⟨b2, off2, hb2, d0⟩ := (hRd.ext hwr2).at_ hy
            injection hb2 with hb2
            injection hb2 with hb2 hb3
            subst hb2
            subst hb3
            have hcm := List.countP_le_length (p := fun y => q y x) (l := ys.take m)
            rw [List.length_take] at hcm
            have hm2 : (ys.take m).countP (fun y => q y x) ≤ 5 := by omega
            have y3 : wrap64 ((bkTo q xs j : Int) + ((ys.take m).countP (fun y => q y x) : Int) + 1) = (bkTo q xs j : Int) + ((ys.take m).countP (fun y => q y x) : Int) + 1 := IntWalk.wrap64_in _ (by omega)
            have HN := hide (countP_at (p := fun y => q y x) hy)
            have hym := HDM.out y (List.mem_of_getElem? hy)
            clear hy hcm
            have HC := hide (HP.out x y wr (hw.trans (hwr.trans hwr2)))
            cases hq : q y x
            all_goals
              rw [hq] at HC HN
              go_wp2_with fail
              all_goals refine HC.out.mono ?_
              all_goals rintro e w1 ⟨rfl, hw1⟩
              all_goals go_wp2
              all_goals refine ⟨⟨m + 1, by omega, by go_num, ?_, hwr2.trans hw1⟩, by simp [intOf]; omega⟩
              all_goals rw [HN.out]
              all_goals simp
              all_goals omega
          · have hmn : m = n - (j + 1) := by omega
            have hyl := HDL.out
            go_wp2
            refine ⟨⟨j + 1, by omega, by go_num, ?_, hwr.trans hwr2⟩, by simp [intOf]; omega⟩
            rw [HSU.out, List.take_of_length_le (by omega), Int.natCast_add]
    · have hjn : j = n := by omega
      go_wp2
      go_ret
      exact ⟨ret_int (by rw [hjn, HQ.out, ← HXN.out, bkTo_all]), hw.trans hwr⟩

set_option maxRecDepth 100000 in
set_option maxHeartbeats 4000000 in
theorem kemS_impl (w : World) (n : Nat) (a ar : Option Addr) (c cr : Nat) (vs : List Vt) (r : List Int) (hR : RdV w a vs) (hRr : RdI w ar r) (h0 : profOk n vs = true) (hr : rkOk n r = true) (hcr : r.length ≤ cr) :
    Calls Try.prog 108 #[.agg #[.int .i64 n, .slice a vs.length c], .slice ar r.length cr] w fun e w' => e = .returned (.int .i64 (kemV vs r)) ∧ Ext w w' := by
  have q0 := new0 w (.int .i64 n) [.slice a vs.length c] 43
  have q1 := new1 w (.int .i64 n) (.slice a vs.length c) [] 43
  have HS := hide (prof_small h0)
  have hin : inR (n : Int) 1 5 = true := inR_iff.2 (by have := prof_size h0; omega)
  have hrn : r.length = n := by have := (rk_len hr).1; omega
  have HRK := hide hr
  have HRN := hide hrn
  have n2 : n ≤ 5 := by have := prof_size h0; omega
  rw [hrn] at hcr ⊢
  clear hr hrn
  go_enter Try.func108, Try.ntmps108
  have HRO : Hid (∀ w', Ext w w' → Calls Try.prog 178 #[.int .i64 n, .slice ar n cr] w' fun e w'' => e = .returned (.bool true) ∧ Ext w' w'') := fun w' hw' => by
    have h := rank_impl_n w' n ar cr r (hRr.ext hw') HRN.out hcr hin
    rw [HRK.out] at h
    exact h
  go_wp2_with (first
    | (go_at_call 63; refine (prof_impl _ _ _ _ _ (hR.ext (by repeat (first | exact Ext.refl _ | assumption | refine Ext.alloc ?_ _ | refine Ext.drew ?_ | refine Ext.trans ?_ (by assumption))))).mono ?_; rintro e w1 ⟨rfl, hw1⟩; have q0 := Ext.keep (w' := w1) (by repeat (first | exact Ext.refl _ | assumption | refine Ext.alloc ?_ _ | refine Ext.drew ?_ | refine Ext.trans ?_ (by assumption))) q0; have q1 := Ext.keep (w' := w1) (by repeat (first | exact Ext.refl _ | assumption | refine Ext.alloc ?_ _ | refine Ext.drew ?_ | refine Ext.trans ?_ (by assumption))) q1)
    | (go_at_call 178; refine (HRO.out _ (by repeat (first | exact Ext.refl _ | assumption | refine Ext.alloc ?_ _ | refine Ext.drew ?_ | refine Ext.trans ?_ (by assumption)))).mono ?_; rintro e w1 ⟨rfl, hw1⟩; have q0 := Ext.keep (w' := w1) (by repeat (first | exact Ext.refl _ | assumption | refine Ext.alloc ?_ _ | refine Ext.drew ?_ | refine Ext.trans ?_ (by assumption))) q0; have q1 := Ext.keep (w' := w1) (by repeat (first | exact Ext.refl _ | assumption | refine Ext.alloc ?_ _ | refine Ext.drew ?_ | refine Ext.trans ?_ (by assumption))) q1))
  have hw : Ext w w1 := (by repeat (first | exact Ext.refl _ | assumption | refine Ext.alloc ?_ _ | refine Ext.drew ?_ | refine Ext.trans ?_ (by assumption)))
  obtain ⟨wb, hwb⟩ : ∃ wb : World, wb = w1 := ⟨_, rfl⟩
  subst hwb
  clear hw1 HRO
  have hvl := HS.out.1
  go_loopw [5, 7, 21] (fun s _ i wr => ∃ k : Nat, k ≤ vs.length ∧ i = .int .i64 k ∧ s = .int .i64 (kemV (vs.take k) r) ∧ Ext wb wr) (fun _ _ i _ => vs.length - (intOf i).toNat)
  case atStart => exact ⟨0, Nat.zero_le _, rfl, rfl, Ext.refl _⟩
  case round =>
    obtain ⟨k, hk, rfl, rfl, hwr⟩ := hrel
    have hbd := kemV_bd (r := r) HS.out k hk
    by_cases hkt : k < vs.length
    · obtain ⟨x, hx⟩ := at_of_lt hkt
      obtain ⟨b, off, a', c', rfl, c0, c1, hc', hRx⟩ := (hR.ext (hw.trans hwr)).at_ hx
      have hxs := HS.out.2 x (List.mem_of_getElem? hx)
      have hxl : x.1.length = n := by have := (rk_len hxs.1).1; omega
      have hsb := swapN_bd (r := r) (rk_len hxs.1).2
      have hp1 : 0 ≤ x.2 * (swapN x.1 r : Int) := Int.mul_nonneg (by omega) (by omega)
      have hp2 : x.2 * (swapN x.1 r : Int) ≤ 1000 * 25 := Int.mul_le_mul (by omega) (by omega) (by omega) (by omega)
      have HN := hide (kemV_at (r := r) hx)
      have HC : Hid (∀ w', Ext wr w' → Calls Try.prog 220 #[.slice a' x.1.length c', .slice ar n cr] w' fun e w'' => e = .returned (.int .i64 (swapN x.1 r : Nat)) ∧ Ext w' w'') := fun w' hw' => by
        have h := swap_impl w' a' ar c' cr n x.1 r hxs.1 HRK.out (hRx.ext hw') (hRr.ext ((hw.trans hwr).trans hw')) hc' (by rw [HRN.out]; exact hcr) hin
        rw [HRN.out] at h
        exact h
      have e0 := new0 wr (.slice a' x.1.length c') [.int .i64 x.2] 138
      have e1 := new1 wr (.slice a' x.1.length c') (.int .i64 x.2) [] 138
      have y1 : IntKind.i64.wrap (x.2 * (swapN x.1 r : Int)) = x.2 * (swapN x.1 r : Int) := IntWalk.i64_in _ (by omega)
      have y2 : IntKind.i64.wrap (kemV (vs.take k) r + x.2 * (swapN x.1 r : Int)) = kemV (vs.take k) r + x.2 * (swapN x.1 r : Int) := IntWalk.i64_in _ (by omega)
      clear hx hxs hxl hsb hp1 hp2 hRx hbd
      go_wp2
      refine wp_region_X (by kernel_rfl) (by kernel_rfl) ?_
      repeat' (refine wpX_stepQ (fun K hK => ?_)
               go_simp
               try (rw [if_neg (by intro h; simp [undef] at h)])
               try split
               all_goals
                 first
                 | (refine hK _ ?_
                    clear hK K)
                 | (apply Exists.intro
                    refine ⟨fun wq hwq => ?_, hK _ ?_⟩
                    · have hcq := hwq.cellS
                      go_simp
                      first
                      | exact ⟨Ext.refl _, rfl⟩
                      | exact ⟨Ext.refl _, HC.out _ (by repeat (first | exact Ext.refl _ | assumption | refine Ext.alloc ?_ _ | refine Ext.drew ?_ | refine Ext.trans ?_ (by assumption)))⟩
                    clear hK K))
      refine wpX_nil (fun wz hwz => ?_)
      go_wp2
      exact ⟨⟨k + 1, by omega, by go_num, by rw [HN.out], (by repeat (first | exact Ext.refl _ | assumption | refine Ext.alloc ?_ _ | refine Ext.drew ?_ | refine Ext.trans ?_ (by assumption)))⟩, by simp [intOf]; omega⟩
    · have HK : Hid (kemV (vs.take k) r = kemV vs r) := hide (by rw [List.take_of_length_le (by omega)])
      go_wp2
      go_ret
      exact ⟨ret_int HK.out, hw.trans hwr⟩

set_option maxRecDepth 100000 in
set_option maxHeartbeats 1000000 in
theorem kem_impl (w : World) (sz : Int) (a : Option Addr) (c : Nat) (vs : List Vt) (hR : RdV w a vs) (h0 : profOk sz vs = true) :
    Calls Try.prog 106 #[.agg #[.int .i64 sz, .slice a vs.length c]] w fun e w' => ∃ v, e = .returned v ∧ OwnI w' w.heap.size v (kemO sz vs) ∧ Ext w w' := by
  obtain ⟨n, rfl, n1, n2⟩ := prof_nat h0
  have q0 := new0 w (.int .i64 n) [.slice a vs.length c] 43
  have q1 := new1 w (.int .i64 n) (.slice a vs.length c) [] 43
  have hE := Ext.new w (.cells #[.int .i64 n, .slice a vs.length c] 43)
  have hl := least_impl 219 #[] #[.pointer (some ⟨w.heap.size, 0, none⟩)] (kemV vs) _ n a c vs (hR.ext hE) h0 n1 n2 Try.call219
    (fun r a' c' w' hr hc hRr hw' => by
      have r0 := hw'.keep q0
      have r1 := hw'.keep q1
      have HC := hide (fun w'' (hw'' : Ext w' w'') => kemS_impl w'' n a a' c c' vs r ((hR.ext hE).ext (hw'.trans hw'')) (hRr.ext hw'') h0 hr hc)
      show Calls Try.prog 219 #[.slice a' r.length c', .pointer (some ⟨w.heap.size, 0, none⟩)] w' _
      go_enter Try.func219, Try.ntmps219
      go_wp2_with fail
      refine (HC.out _ (by repeat (first | exact Ext.refl _ | assumption | refine Ext.alloc ?_ _ | refine Ext.drew ?_ | refine Ext.trans ?_ (by assumption)))).mono ?_
      rintro e w1 ⟨rfl, hw1⟩
      go_wp2
      go_ret
      exact ⟨rfl, hw1⟩)
  have HC := hide hl
  have HK : Hid (kemO n vs = (lstR (kemV vs) n).1) := hide (by simp [kemO, lstO, h0])
  clear hl h0
  go_enter Try.func106, Try.ntmps106
  go_wp2_with fail
  refine HC.out.mono ?_
  rintro e w1 ⟨v, rfl, hv, hw1⟩
  go_wp2
  go_ret
  exact ⟨_, rfl, by rw [HK.out]; exact hv.base (by simp), hE.trans hw1⟩

set_option maxRecDepth 100000 in
set_option maxHeartbeats 1000000 in
theorem sla_impl (w : World) (sz : Int) (a : Option Addr) (c : Nat) (vs : List Vt) (hR : RdV w a vs) :
    Calls Try.prog 29 #[.agg #[.int .i64 sz, .slice a vs.length c]] w fun e w' => ∃ v, e = .returned (.tuple #[v, .int .i64 (slaW sz vs)]) ∧ OwnI w' w.heap.size v (slaO sz vs) ∧ Ext w w' := by
  have q0 := new0 w (.int .i64 sz) [.slice a vs.length c] 43
  have q1 := new1 w (.int .i64 sz) (.slice a vs.length c) [] 43
  cases h0 : profOk sz vs
  · go_enter Try.func29, Try.ntmps29
    go_wp2_with (go_at_call 63; refine (prof_impl _ _ _ _ _ (hR.ext (by repeat (first | exact Ext.refl _ | assumption | refine Ext.alloc ?_ _ | refine Ext.drew ?_ | refine Ext.trans ?_ (by assumption))))).mono ?_; rintro e w1 ⟨rfl, hw1⟩; have q0 := Ext.keep (w' := w1) (by repeat (first | exact Ext.refl _ | assumption | refine Ext.alloc ?_ _ | refine Ext.drew ?_ | refine Ext.trans ?_ (by assumption))) q0; have q1 := Ext.keep (w' := w1) (by repeat (first | exact Ext.refl _ | assumption | refine Ext.alloc ?_ _ | refine Ext.drew ?_ | refine Ext.trans ?_ (by assumption))) q1)
    go_ret2
    exact ⟨.slice none 0 0, by simp [slaW, h0], by simp [slaO, lstO, h0]; exact OwnI.nil _ _, (by repeat (first | exact Ext.refl _ | assumption | refine Ext.alloc ?_ _ | refine Ext.drew ?_ | refine Ext.trans ?_ (by assumption)))⟩
  obtain ⟨n, rfl, n1, n2⟩ := prof_nat h0
  have HS := hide (prof_small h0)
  have HK : Hid (slaO n vs = (lstR (slaN vs) n).1 ∧ slaW n vs = (lstR (slaN vs) n).2.1) := hide (by simp [slaO, slaW, lstO, h0])
  go_enter Try.func29, Try.ntmps29
  go_wp2_with (go_at_call 63; refine (prof_impl _ _ _ _ _ (hR.ext (by repeat (first | exact Ext.refl _ | assumption | refine Ext.alloc ?_ _ | refine Ext.drew ?_ | refine Ext.trans ?_ (by assumption))))).mono ?_; rintro e w1 ⟨rfl, hw1⟩; have q0 := Ext.keep (w' := w1) (by repeat (first | exact Ext.refl _ | assumption | refine Ext.alloc ?_ _ | refine Ext.drew ?_ | refine Ext.trans ?_ (by assumption))) q0; have q1 := Ext.keep (w' := w1) (by repeat (first | exact Ext.refl _ | assumption | refine Ext.alloc ?_ _ | refine Ext.drew ?_ | refine Ext.trans ?_ (by assumption))) q1)
  have hw : Ext w w1 := (by repeat (first | exact Ext.refl _ | assumption | refine Ext.alloc ?_ _ | refine Ext.drew ?_ | refine Ext.trans ?_ (by assumption)))
  have hl := least_impl 136 #[] #[.pointer (some ⟨w.heap.size, 0, none⟩)] (slaN vs) w1 n a c vs (hR.ext hw) h0 n1 n2 Try.call136
    (fun r a' c' w' hr hc hRr hw' => by
      have r0 := hw'.keep q0
      have r1 := hw'.keep q1
      have HC := hide (fun w'' (hw'' : Ext w' w'') => back_impl 138 #[.agg #[.int .i64 n, .slice a vs.length c]] #[] (fun y x => beatsV vs y x) w'' n a vs.length c a' c' r (hRr.ext hw'') (rk_len hr).2 hc Try.call138
        (fun x y w3 _ _ hw3 => beats_impl w3 n a c vs x y ((hR.ext hw).ext (hw'.trans (hw''.trans hw3))) HS.out))
      show Calls Try.prog 136 #[.slice a' r.length c', .pointer (some ⟨w.heap.size, 0, none⟩)] w' _
      go_enter Try.func136, Try.ntmps136
      go_wp2_with fail
      refine (HC.out _ (by repeat (first | exact Ext.refl _ | assumption | refine Ext.alloc ?_ _ | refine Ext.drew ?_ | refine Ext.trans ?_ (by assumption)))).mono ?_
      rintro e w1 ⟨rfl, hw1⟩
      go_wp2
      go_ret
      exact ⟨rfl, hw1⟩)
  have HC := hide hl
  clear hl h0
  refine HC.out.mono ?_
  rintro e w2 ⟨v, rfl, hv, hw2⟩
  have hws := hw.size
  go_wp2
  go_ret2
  exact ⟨_, (by rw [HK.out.2]; rfl), by rw [HK.out.1]; exact hv.base hws, hw.trans hw2⟩

end Go.Proofs.Ytacmabdeocmheaa
