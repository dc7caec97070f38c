/- The distance of a ranking by swaps, of the program, and the first ranking with the least one. Rankings that are changed (plain law). The answers on failures of a rule (plain law). The top cycle. Sums over candidates and votes (plain law). What holds of scores and their order (plain law). The one who beats all others (plain law). -/
import Derived.Test.YtfmeklgdaabooaaGreatDoorCn15
import Derived.Test.YtfmeklgdaabooaaGreatDoorCn14
import Derived.Test.YtfmeklgdaabooaaGreatDoorCn5
import Derived.Test.YtfmeklgdaabooaaGreatDoorCn2
import Derived.Test.YtfmeklgdaabooaaGreatDoorCn12
import Derived.Test.YtfmeklgdaabooaaGreatDoorCn11
import Derived.Test.YtfmeklgdaabooaaGreatDoorCn7
import Derived.Test.YtfmeklgdaabooaaGreatDoorCn9
namespace Go.Proofs.YtfmeklgdaabooaaGreatDoor
open Go.RowKit

set_option maxRecDepth 100000 in
set_option maxHeartbeats 1000000 in
theorem isRk_impl (w : World) (a : Option Addr) (c n : Nat) (xs : List Int) (hx : rkOk n xs = true) (hR : RdI w a xs) (hl : xs.length = n) (hc : n ≤ c) (n1 : inR (n : Int) 1 5 = true) :
    Calls Tryz.prog 62 #[.slice a n c] w fun e w' => e = .returned (.bool true) ∧ Ext w w' := by
  have h1 := rank_impl_n w n a c xs hR hl hc n1
  rw [hx] at h1
  have H1 := hide h1
  clear hx h1 hl hR
  go_enter Tryz.func62, Tryz.ntmps62
  go_wp2_with fail
  refine H1.out.mono ?_
  rintro e w1 ⟨rfl, hw1⟩
  go_wp2
  go_ret
  exact ⟨rfl, hw1⟩

set_option maxRecDepth 100000 in
set_option maxHeartbeats 4000000 in
theorem swap_impl (w : World) (a a2 : Option Addr) (c c2 : Nat) (n : Nat) (xs r : List Int) (hx : rkOk n xs = true) (hr : rkOk n r = true) (hR : RdI w a xs) (hR2 : RdI w a2 r) (hc : xs.length ≤ c) (hc2 : r.length ≤ c2) (n1 : inR (n : Int) 1 5 = true) :
    Calls Tryz.prog 123 #[.slice a xs.length c, .slice a2 r.length c2] w fun e w' => e = .returned (.int .i64 (swapN xs r : Nat)) ∧ Ext w w' := by
  have l1 := rk_len hx
  have l2 := rk_len hr
  have hxn : xs.length = n := by omega
  have hrn : r.length = n := by omega
  have n2 : n ≤ 5 := by omega
  have HX := hide hx
  have HR := hide hr
  have HXN := hide hxn
  have HRN := hide hrn
  rw [hxn] at hc
  rw [hrn] at hc2
  rw [hxn, hrn]
  clear hx hr l1 l2 hxn hrn
  obtain ⟨q, hq⟩ : ∃ q : Int → Int → Bool, q = fun y x => prefB r y x := ⟨_, rfl⟩
  have HQ : Hid (swapN xs r = bkI q xs) := hide (by rw [hq]; rfl)
  have HP : Hid (∀ (x y : Int) (w' : World), Ext w w' → Calls Tryz.prog 10 #[.slice a2 n c2, .int .i64 y, .int .i64 x] w' fun e w'' => e = .returned (.bool (q y x)) ∧ Ext w' w'') := fun x y w' hw' => by
    have h := pref_impl w' a2 c2 r y x (hR2.ext hw') (by rw [HRN.out]; omega)
    rw [HRN.out] at h
    rw [hq]
    exact h
  clear hq
  go_enter Tryz.func123, Tryz.ntmps123
  go_wp2_with (first
    | (go_at_call 62; refine (isRk_impl _ a c n xs HX.out (hR.ext (by repeat (first | exact Ext.refl _ | assumption | refine Ext.alloc ?_ _ | refine Ext.drew ?_ | refine Ext.trans ?_ (by assumption)))) HXN.out hc n1).mono ?_; rintro e w1 ⟨rfl, hw1⟩)
    | (go_at_call 62; refine (isRk_impl _ a2 c2 n r HR.out (hR2.ext (by repeat (first | exact Ext.refl _ | assumption | refine Ext.alloc ?_ _ | refine Ext.drew ?_ | refine Ext.trans ?_ (by assumption)))) HRN.out hc2 n1).mono ?_; rintro e w1 ⟨rfl, hw1⟩))
  have hw : Ext w w1 := (by repeat (first | exact Ext.refl _ | assumption | refine Ext.alloc ?_ _ | refine Ext.drew ?_ | refine Ext.trans ?_ (by assumption)))
  obtain ⟨wb, hwb⟩ : ∃ wb : World, wb = w1 := ⟨_, rfl⟩
  subst hwb
  clear hw1
  go_loopw [5, 6, 7, 9, 27, 35, 36, 37] (fun s _ _ _ i _ _ _ wr => ∃ j : Nat, j ≤ n ∧ i = .int .i64 j ∧ s = .int .i64 (bkTo q xs j : Nat) ∧ Ext wb wr) (fun _ _ _ _ i _ _ _ _ => n - (intOf i).toNat)
  case atStart => exact ⟨0, Nat.zero_le _, rfl, rfl, Ext.refl _⟩
  case round =>
    obtain ⟨j, hj, rfl, rfl, hwr⟩ := hrel
    have hbd := bkTo_bd q xs j
    rw [HXN.out] at hbd
    have hbd2 : bkTo q xs j ≤ 5 * 5 := Nat.le_trans hbd (Nat.mul_le_mul (by omega) n2)
    by_cases hjt : j < n
    · obtain ⟨x, hx⟩ := at_of_lt (xs := xs) (k := j) (by rw [HXN.out]; exact hjt)
      have hxm := List.mem_of_getElem? hx
      obtain ⟨b, off, rfl, c0⟩ := (hR.ext (hw.trans hwr)).at_ hx
      have hRd := (hR.ext (hw.trans hwr)).drop (n := off + (j + 1)) (j + 1) c (by rw [HXN.out]; exact hc) rfl
      have i1 : (j : Int) + 1 ≤ (c : Int) := by omega
      have i2 : j ≤ c := by omega
      have i3 : j + 1 ≤ c := by omega
      have i4 : j + 1 ≤ n := by omega
      have i7 : (j : Int) + 1 ≤ (n : Int) := by omega
      have i5 : ((j : Int) + 1).toNat = j + 1 := by omega
      have i6 : (0 : Int) ≤ (j : Int) + 1 := by omega
      have y1 : wrap64 ((j : Int) + 1) = (j : Int) + 1 := IntWalk.wrap64_in _ (by omega)
      have y2 : IntKind.i64.wrap ((j : Int) + 1) = (j : Int) + 1 := IntWalk.i64_in _ (by omega)
      have hgd : xs.getD j 0 = x := by simp [List.getD, hx]
      have hsu : bkTo q xs (j + 1) = bkTo q xs j + ((xs.drop (j + 1)).countP (fun y => q y x)) := by rw [bkTo, hgd]
      have HSU := hide hsu
      have hdl : (xs.drop (j + 1)).length = n - (j + 1) := by rw [List.length_drop, HXN.out]
      have HDL := hide hdl
      have HDM : Hid (∀ y ∈ xs.drop (j + 1), y ∈ xs) := fun y hy => List.mem_of_mem_drop hy
      clear hx hgd hsu hdl
      go_wp2_with fail
      all_goals
        first | rw [if_pos (by assumption)] at hRd | rw [if_neg (by assumption)] at hRd
        first | subst h | clear h
        clear i1 i2 i3 i4 i5 i6 i7 y1 y2
        generalize xs.drop (j + 1) = ys at hRd HSU HDL HDM
        obtain ⟨wo, hwo⟩ : ∃ wo : World, wo = wr := ⟨_, rfl⟩
        subst hwo
        go_loopw [5, 9, 37] (fun s _ i wr => ∃ m : Nat, m ≤ n - (j + 1) ∧ i = .int .i64 m ∧ s = .int .i64 ((bkTo q xs j : Int) + ((ys.take m).countP (fun y => q y x) : Int)) ∧ Ext wo wr) (fun _ _ i _ => n - (j + 1) - (intOf i).toNat)
        case atStart => exact ⟨0, Nat.zero_le _, rfl, by simp, Ext.refl _⟩
        case round =>
          obtain ⟨m, hm, rfl, rfl, hwr2⟩ := hrel
          by_cases hmt : m < n - (j + 1)
          · obtain ⟨y, hy⟩ := at_of_lt (xs := ys) (k := m) (by have := HDL.out; omega)
            obtain ⟨b2, off2, hb2, d0⟩ := (hRd.ext hwr2).at_ hy
            injection hb2 with hb2
            injection hb2 with hb2 hb3
            subst hb2
            subst hb3
            have hcm := List.countP_le_length (p := fun y => q y x) (l := ys.take m)
            rw [List.length_take] at hcm
            have hm2 : (ys.take m).countP (fun y => q y x) ≤ 5 := by omega
            have y3 : wrap64 ((bkTo q xs j : Int) + ((ys.take m).countP (fun y => q y x) : Int) + 1) = (bkTo q xs j : Int) + ((ys.take m).countP (fun y => q y x) : Int) + 1 := IntWalk.wrap64_in _ (by omega)
            have HN := hide (countP_at (p := fun y => q y x) hy)
            have hym := HDM.out y (List.mem_of_getElem? hy)
            clear hy hcm
            have HC := hide (HP.out x y wr (hw.trans (hwr.trans hwr2)))
            cases hq : q y x
            all_goals
              rw [hq] at HC HN
              go_wp2_with fail
              all_goals refine HC.out.mono ?_
              all_goals rintro e w1 ⟨rfl, hw1⟩
              all_goals go_wp2
              all_goals refine ⟨⟨m + 1, by omega, by go_num, ?_, hwr2.trans hw1⟩, by simp [intOf]; omega⟩
              all_goals rw [HN.out]
              all_goals simp
              all_goals omega
          · have hmn : m = n - (j + 1) := by omega
            have hyl := HDL.out
            go_wp2
            refine ⟨⟨j + 1, by omega, by go_num, ?_, hwr.trans hwr2⟩, by simp [intOf]; omega⟩
            rw [HSU.out, List.take_of_length_le (by omega), Int.natCast_add]
    · have hjn : j = n := by omega
      go_wp2
      go_ret
      exact ⟨ret_int (by rw [hjn, HQ.out, ← HXN.out, bkTo_all]), hw.trans hwr⟩

set_option maxRecDepth 100000 in
set_option maxHeartbeats 4000000 in
theorem kemS_impl (w : World) (n : Nat) (a ar : Option Addr) (c cr : Nat) (vs : List Vt) (r : List Int) (hR : RdV w a vs) (hRr : RdI w ar r) (h0 : profOk n vs = true) (hr : rkOk n r = true) (hcr : r.length ≤ cr) :
    Calls Tryz.prog 99 #[.agg #[.int .i64 n, .slice a vs.length c], .slice ar r.length cr] w fun e w' => e = .returned (.int .i64 (kemV vs r)) ∧ Ext w w' := by
  have q0 := new0 w (.int .i64 n) [.slice a vs.length c] 26
  have q1 := new1 w (.int .i64 n) (.slice a vs.length c) [] 26
  have HS := hide (prof_small h0)
  have hin : inR (n : Int) 1 5 = true := inR_iff.2 (by have := prof_size h0; omega)
  have hrn : r.length = n := by have := (rk_len hr).1; omega
  have HRK := hide hr
  have HRN := hide hrn
  have n2 : n ≤ 5 := by have := prof_size h0; omega
  rw [hrn] at hcr ⊢
  clear hr hrn
  go_enter Tryz.func99, Tryz.ntmps99
  have HRO : Hid (∀ w', Ext w w' → Calls Tryz.prog 27 #[.int .i64 n, .slice ar n cr] w' fun e w'' => e = .returned (.bool true) ∧ Ext w' w'') := fun w' hw' => by
    have h := rank_impl_n w' n ar cr r (hRr.ext hw') HRN.out hcr hin
    rw [HRK.out] at h
    exact h
  go_wp2_with (first
    | (go_at_call 25; refine (prof_impl _ _ _ _ _ (hR.ext (by repeat (first | exact Ext.refl _ | assumption | refine Ext.alloc ?_ _ | refine Ext.drew ?_ | refine Ext.trans ?_ (by assumption))))).mono ?_; rintro e w1 ⟨rfl, hw1⟩; have q0 := Ext.keep (w' := w1) (by repeat (first | exact Ext.refl _ | assumption | refine Ext.alloc ?_ _ | refine Ext.drew ?_ | refine Ext.trans ?_ (by assumption))) q0; have q1 := Ext.keep (w' := w1) (by repeat (first | exact Ext.refl _ | assumption | refine Ext.alloc ?_ _ | refine Ext.drew ?_ | refine Ext.trans ?_ (by assumption))) q1)
    | (go_at_call 27; refine (HRO.out _ (by repeat (first | exact Ext.refl _ | assumption | refine Ext.alloc ?_ _ | refine Ext.drew ?_ | refine Ext.trans ?_ (by assumption)))).mono ?_; rintro e w1 ⟨rfl, hw1⟩; have q0 := Ext.keep (w' := w1) (by repeat (first | exact Ext.refl _ | assumption | refine Ext.alloc ?_ _ | refine Ext.drew ?_ | refine Ext.trans ?_ (by assumption))) q0; have q1 := Ext.keep (w' := w1) (by repeat (first | exact Ext.refl _ | assumption | refine Ext.alloc ?_ _ | refine Ext.drew ?_ | refine Ext.trans ?_ (by assumption))) q1))
  have hw : Ext w w1 := (by repeat (first | exact Ext.refl _ | assumption | refine Ext.alloc ?_ _ | refine Ext.drew ?_ | refine Ext.trans ?_ (by assumption)))
  obtain ⟨wb, hwb⟩ : ∃ wb : World, wb = w1 := ⟨_, rfl⟩
  subst hwb
  clear hw1 HRO
  have hvl := HS.out.1
  go_loopw [5, 7, 21] (fun s _ i wr => ∃ k : Nat, k ≤ vs.length ∧ i = .int .i64 k ∧ s = .int .i64 (kemV (vs.take k) r) ∧ Ext wb wr) (fun _ _ i _ => vs.length - (intOf i).toNat)
  case atStart => exact ⟨0, Nat.zero_le _, rfl, rfl, Ext.refl _⟩
  case round =>
    obtain ⟨k, hk, rfl, rfl, hwr⟩ := hrel
    have hbd := kemV_bd (r := r) HS.out k hk
    by_cases hkt : k < vs.length
    · obtain ⟨x, hx⟩ := at_of_lt hkt
      obtain ⟨b, off, a', c', rfl, c0, c1, hc', hRx⟩ := (hR.ext (hw.trans hwr)).at_ hx
      have hxs := HS.out.2 x (List.mem_of_getElem? hx)
      have hxl : x.1.length = n := by have := (rk_len hxs.1).1; omega
      have hsb := swapN_bd (r := r) (rk_len hxs.1).2
      have hp1 : 0 ≤ x.2 * (swapN x.1 r : Int) := Int.mul_nonneg (by omega) (by omega)
      have hp2 : x.2 * (swapN x.1 r : Int) ≤ 1000 * 25 := Int.mul_le_mul (by omega) (by omega) (by omega) (by omega)
      have HN := hide (kemV_at (r := r) hx)
      have HC : Hid (∀ w', Ext wr w' → Calls Tryz.prog 123 #[.slice a' x.1.length c', .slice ar n cr] w' fun e w'' => e = .returned (.int .i64 (swapN x.1 r : Nat)) ∧ Ext w' w'') := fun w' hw' => by
        have h := swap_impl w' a' ar c' cr n x.1 r hxs.1 HRK.out (hRx.ext hw') (hRr.ext ((hw.trans hwr).trans hw')) hc' (by rw [HRN.out]; exact hcr) hin
        rw [HRN.out] at h
        exact h
      have e0 := new0 wr (.slice a' x.1.length c') [.int .i64 x.2] 30
      have e1 := new1 wr (.slice a' x.1.length c') (.int .i64 x.2) [] 30
      have y1 : IntKind.i64.wrap (x.2 * (swapN x.1 r : Int)) = x.2 * (swapN x.1 r : Int) := IntWalk.i64_in _ (by omega)
      have y2 : IntKind.i64.wrap (kemV (vs.take k) r + x.2 * (swapN x.1 r : Int)) = kemV (vs.take k) r + x.2 * (swapN x.1 r : Int) := IntWalk.i64_in _ (by omega)
      clear hx hxs hxl hsb hp1 hp2 hRx hbd
      go_wp2
      refine wp_region_X (by kernel_rfl) (by kernel_rfl) ?_
      repeat' (refine wpX_stepQ (fun K hK => ?_)
               go_simp
               try (rw [if_neg (by intro h; simp [undef] at h)])
               try split
               all_goals
                 first
                 | (refine hK _ ?_
                    clear hK K)
                 | (apply Exists.intro
                    refine ⟨fun wq hwq => ?_, hK _ ?_⟩
                    · have hcq := hwq.cellS
                      go_simp
                      first
                      | exact ⟨Ext.refl _, rfl⟩
                      | exact ⟨Ext.refl _, HC.out _ (by repeat (first | exact Ext.refl _ | assumption | refine Ext.alloc ?_ _ | refine Ext.drew ?_ | refine Ext.trans ?_ (by assumption)))⟩
                    clear hK K))
      refine wpX_nil (fun wz hwz => ?_)
      go_wp2
      exact ⟨⟨k + 1, by omega, by go_num, by rw [HN.out], (by repeat (first | exact Ext.refl _ | assumption | refine Ext.alloc ?_ _ | refine Ext.drew ?_ | refine Ext.trans ?_ (by assumption)))⟩, by simp [intOf]; omega⟩
    · have HK : Hid (kemV (vs.take k) r = kemV vs r) := hide (by rw [List.take_of_length_le (by omega)])
      go_wp2
      go_ret
      exact ⟨ret_int HK.out, hw.trans hwr⟩

set_option maxRecDepth 100000 in
set_option maxHeartbeats 1000000 in
theorem kem_impl (w : World) (sz : Int) (a : Option Addr) (c : Nat) (vs : List Vt) (hR : RdV w a vs) (h0 : profOk sz vs = true) :
    Calls Tryz.prog 59 #[.agg #[.int .i64 sz, .slice a vs.length c]] w fun e w' => ∃ v, e = .returned v ∧ OwnI w' w.heap.size v (kemO sz vs) ∧ Ext w w' := by
  obtain ⟨n, rfl, n1, n2⟩ := prof_nat h0
  have q0 := new0 w (.int .i64 n) [.slice a vs.length c] 26
  have q1 := new1 w (.int .i64 n) (.slice a vs.length c) [] 26
  have hE := Ext.new w (.cells #[.int .i64 n, .slice a vs.length c] 26)
  have hl := least_impl 98 #[] #[.pointer (some ⟨w.heap.size, 0, none⟩)] (kemV vs) _ n a c vs (hR.ext hE) h0 n1 n2 Tryz.call98
    (fun r a' c' w' hr hc hRr hw' => by
      have r0 := hw'.keep q0
      have r1 := hw'.keep q1
      have HC := hide (fun w'' (hw'' : Ext w' w'') => kemS_impl w'' n a a' c c' vs r ((hR.ext hE).ext (hw'.trans hw'')) (hRr.ext hw'') h0 hr hc)
      show Calls Tryz.prog 98 #[.slice a' r.length c', .pointer (some ⟨w.heap.size, 0, none⟩)] w' _
      go_enter Tryz.func98, Tryz.ntmps98
      go_wp2_with fail
      refine (HC.out _ (by repeat (first | exact Ext.refl _ | assumption | refine Ext.alloc ?_ _ | refine Ext.drew ?_ | refine Ext.trans ?_ (by assumption)))).mono ?_
      rintro e w1 ⟨rfl, hw1⟩
      go_wp2
      go_ret
      exact ⟨rfl, hw1⟩)
  have HC := hide hl
  have HK : Hid (kemO n vs = (lstR (kemV vs) n).1) := hide (by simp [kemO, lstO, h0])
  clear hl h0
  go_enter Tryz.func59, Tryz.ntmps59
  go_wp2_with fail
  refine HC.out.mono ?_
  rintro e w1 ⟨v, rfl, hv, hw1⟩
  go_wp2
  go_ret
  exact ⟨_, rfl, by rw [HK.out]; exact hv.base (by simp), hE.trans hw1⟩

set_option maxRecDepth 100000 in
theorem rk_perm_ok {m : Int} {xs ys : List Int} (h : ys.Perm xs) (hr : rkOk m xs = true) : rkOk m ys = true := by
  have hl := h.length_eq
  unfold rkOk at hr ⊢
  simp only [Bool.and_eq_true, decide_eq_true_eq, List.all_eq_true] at hr ⊢
  obtain ⟨h1, h2, h3, h4⟩ := hr
  exact ⟨h1, by omega, fun x hx => h3 x (h.mem_iff.1 hx), h.nodup_iff.2 h4⟩
/-- One place up. -/
def raiseL (xs : List Int) (i : Nat) : List Int := (xs.set (i - 1) (xs.getD i 0)).set i (xs.getD (i - 1) 0)
set_option maxRecDepth 100000 in
theorem raise_len (xs : List Int) (i : Nat) : (raiseL xs i).length = xs.length := by unfold raiseL; rw [List.length_set, List.length_set]
set_option maxRecDepth 100000 in
theorem raise_ok {m : Int} {xs : List Int} {i : Nat} (hr : rkOk m xs = true) (hi : i < xs.length) : rkOk m (raiseL xs i) = true := by
  refine rk_perm_ok ?_ hr
  unfold raiseL
  have h1 : xs.getD i 0 = xs[i] := by simp [List.getD, List.getElem?_eq_getElem hi]
  have hi2 : i - 1 < xs.length := by omega
  have h2 : xs.getD (i - 1) 0 = xs[i - 1] := by simp [List.getD, List.getElem?_eq_getElem hi2]
  rw [h1, h2]
  exact List.set_set_perm hi2 hi
set_option maxRecDepth 100000 in
theorem raise_at {xs : List Int} {i : Nat} (h1 : 1 ≤ i) (hi : i < xs.length) (j : Nat) (hj : j < xs.length) : (raiseL xs i).getD j 0 = if j = i then xs.getD (i - 1) 0 else if j = i - 1 then xs.getD i 0 else xs.getD j 0 := by
  unfold raiseL
  rw [List.getD_eq_getElem?_getD, List.getElem?_set]
  by_cases e : j = i
  · subst e
    rw [if_pos rfl, if_pos rfl, List.length_set, if_pos hj]; rfl
  · rw [if_neg (fun h => e h.symm), if_neg e, List.getElem?_set]
    by_cases e2 : j = i - 1
    · rw [if_pos e2.symm, if_pos e2, if_pos (by omega)]; rfl
    · rw [if_neg (fun h => e2 h.symm), if_neg e2, List.getD_eq_getElem?_getD]
/-- A number without a candidate. -/
def dropV (a x : Int) : List Int := if x < a then [x] else if a < x then [x - 1] else []
def dropL (a : Int) (xs : List Int) : List Int := xs.flatMap (dropV a)
set_option maxRecDepth 100000 in
theorem dropL_at {a : Int} {xs : List Int} {k : Nat} {x : Int} (hx : xs[k]? = some x) : dropL a (xs.take (k + 1)) = dropL a (xs.take k) ++ dropV a x := by rw [take_at hx]; simp [dropL]
set_option maxRecDepth 100000 in
theorem dropL_len (a : Int) : ∀ xs : List Int, (dropL a xs).length ≤ xs.length
  | [] => by simp [dropL]
  | x :: xs => by
    have ih := dropL_len a xs
    have h1 : (dropV a x).length ≤ 1 := by
      unfold dropV
      split
      · simp
      · split <;> simp
    have e : dropL a (x :: xs) = dropV a x ++ dropL a xs := by unfold dropL; rw [List.flatMap_cons]
    rw [e, List.length_append, List.length_cons]
    omega
def downV (a b : Int) : Int := if a < b then b - 1 else b
set_option maxRecDepth 100000 in
theorem dropL_filter (a : Int) : ∀ xs : List Int, dropL a xs = (xs.filter (fun y => !(y == a))).map (downV a)
  | [] => rfl
  | x :: xs => by
    have ih := dropL_filter a xs
    unfold dropL at ih ⊢
    rw [List.flatMap_cons, ih, List.filter_cons]
    unfold dropV downV
    rcases Int.lt_trichotomy x a with h | h | h
    · have hb : (x == a) = false := by rw [beq_eq_false_iff_ne]; omega
      rw [if_pos h, hb]
      simp; omega
    · subst h
      simp
    · have hb : (x == a) = false := by rw [beq_eq_false_iff_ne]; omega
      rw [if_neg (by omega), if_pos h, hb]
      simp; omega
set_option maxRecDepth 100000 in
theorem dropL_erase {a : Int} {xs : List Int} {i : Nat} (hd : xs.Nodup) (hi : xs[i]? = some a) : dropL a xs = (xs.eraseIdx i).map (downV a) := by rw [dropL_filter, erase_filter hd hi]
/-- Votes of which each ranking is changed. -/
def mapV (F : List Int → List Int) (vs : List Vt) : List Vt := vs.map (fun x => (F x.1, x.2))
set_option maxRecDepth 100000 in
theorem mapV_len (F : List Int → List Int) (vs : List Vt) : (mapV F vs).length = vs.length := by unfold mapV; rw [List.length_map]
/-- The first number below n of which something holds, or -1. -/
def firstN (n : Nat) (q : Nat → Bool) : Int := match (List.range n).find? q with | some k => (k : Int) | none => -1
set_option maxRecDepth 100000 in
theorem firstN_some {n k : Nat} {q : Nat → Bool} (hk : k < n) (h1 : ∀ j, j < k → q j = false) (h2 : q k = true) : firstN n q = k := by
  unfold firstN
  have : (List.range n).find? q = some k := by
    rw [List.find?_range_eq_some]
    exact ⟨h2, List.mem_range.2 hk, fun j hj => by simpa using h1 j hj⟩
  rw [this]
set_option maxRecDepth 100000 in
theorem firstN_none {n : Nat} {q : Nat → Bool} (h : ∀ j, j < n → q j = false) : firstN n q = -1 := by
  unfold firstN
  have : (List.range n).find? q = none := by
    rw [List.find?_eq_none]
    intro x hx
    rw [h x (List.mem_range.1 hx)]; decide
  rw [this]
set_option maxRecDepth 100000 in
theorem none_succ {q : Nat → Bool} {k : Nat} (h : ∀ j, j < k → q j = false) (hk : q k = false) : ∀ j, j < k + 1 → q j = false := fun j hj => by
  rcases Nat.lt_succ_iff_lt_or_eq.1 hj with h1 | rfl
  · exact h j h1
  · exact hk

/-- There is a winner and another one who should win. -/
noncomputable def missB (w a : Int) : Bool := decide (0 ≤ w) && (decide (0 ≤ a) && !(w == a))
/-- A vote in which the winner is raised and with which it no longer wins. -/
noncomputable def monQ (rule sz : Int) (vs : List Vt) (w : Int) (k : Nat) : Bool :=
  decide (1 ≤ placeI (vs.getD k ([], 0)).1 w) && !(winB rule sz (vs.set k (raiseL (vs.getD k ([], 0)).1 (placeI (vs.getD k ([], 0)).1 w).toNat, (vs.getD k ([], 0)).2)) == w)
noncomputable def monO (rule sz : Int) (vs : List Vt) : Int := if winB rule sz vs < 0 then -1 else firstN vs.length (monQ rule sz vs (winB rule sz vs))
/-- Without this vote a candidate wins whom it prefers. -/
noncomputable def absQ (rule sz : Int) (vs : List Vt) (w : Int) (k : Nat) : Bool := prefB (vs.getD k ([], 0)).1 (winB rule sz (vs.eraseIdx k)) w
noncomputable def absO (rule sz : Int) (vs : List Vt) : Int := if winB rule sz vs < 0 then -1 else firstN vs.length (absQ rule sz vs (winB rule sz vs))
/-- Without this candidate another one wins. -/
noncomputable def spoQ (rule sz : Int) (vs : List Vt) (w : Int) (a : Nat) : Bool :=
  !((a : Int) == w) && !(winB rule (sz - 1) (mapV (dropL a) vs) == (if (a : Int) < w then w - 1 else w))
noncomputable def spoO (rule sz : Int) (vs : List Vt) : Int := if winB rule sz vs < 0 then -1 else firstN sz.toNat (spoQ rule sz vs (winB rule sz vs))
/-- One alone wins, and also in the reversed profile. -/
noncomputable def revO (rule sz : Int) (vs : List Vt) : Bool := decide ((winO rule sz vs).length = 1) && (decide (2 ≤ sz) && decide (winO rule sz vs = winO rule sz (mapV List.reverse vs)))
/-- Both parts have the same winner, and the whole another one. -/
noncomputable def splO (rule sz : Int) (vs : List Vt) (k : Int) : Bool :=
  decide (0 ≤ winB rule sz vs) && (inR k 1 ((vs.length : Int) - 1) && ((winB rule sz (vs.take k.toNat) == winB rule sz (vs.drop k.toNat)) && !(winB rule sz (vs.take k.toNat) == winB rule sz vs)))
/-- The rules by which a candidate wins. -/
noncomputable def rulL (sz : Int) (vs : List Vt) (a : Int) (k : Nat) : List Int := ((List.range k).filter (fun i : Nat => decide (winB ((i : Int) + 1) sz vs = a))).map (fun i : Nat => (i : Int) + 1)
noncomputable def rulO (sz : Int) (vs : List Vt) (a : Int) : List Int := if profOk sz vs then rulL sz vs a 13 else []
set_option maxRecDepth 100000 in
theorem rulL_succ (sz : Int) (vs : List Vt) (a : Int) (k : Nat) : rulL sz vs a (k + 1) = rulL sz vs a k ++ if winB ((k : Int) + 1) sz vs = a then [(k : Int) + 1] else [] := by
  unfold rulL
  rw [List.range_succ, List.filter_append, List.map_append]
  by_cases h : winB ((k : Int) + 1) sz vs = a <;> simp [h]
set_option maxRecDepth 100000 in
theorem rulL_len (sz : Int) (vs : List Vt) (a : Int) (k : Nat) : (rulL sz vs a k).length ≤ k := by
  unfold rulL
  rw [List.length_map]
  exact Nat.le_trans (List.length_filter_le _ _) (by simp)
set_option maxRecDepth 100000 in
theorem rulO_len (sz : Int) (vs : List Vt) (a : Int) : (rulO sz vs a).length ≤ 13 := by
  unfold rulO
  split
  · exact rulL_len _ _ _ _
  · simp

set_option maxRecDepth 100000 in
theorem bit_shr {s : Int} (h0 : 0 ≤ s) (h63 : s ≤ 63) {k : Nat} (h : k < 6) : (bits BinOp.and IntKind.i64 (s / 2 ^ k) 1 == 1) = bitAt s k := by
  refine sets (p := fun s => (bits BinOp.and IntKind.i64 (s / 2 ^ k) 1 == 1) = bitAt s k) (fun n hn => ?_) h0 h63
  have : k = 0 ∨ k = 1 ∨ k = 2 ∨ k = 3 ∨ k = 4 ∨ k = 5 := by omega
  rcases this with rfl | rfl | rfl | rfl | rfl | rfl <;> revert n <;> decide
set_option maxRecDepth 100000 in
theorem bit_shr0 {s : Int} (h0 : 0 ≤ s) (h63 : s ≤ 63) {k : Nat} (h : k < 6) : (bits BinOp.and IntKind.i64 (s / 2 ^ k) 1 == 0) = !bitAt s k := by
  refine sets (p := fun s => (bits BinOp.and IntKind.i64 (s / 2 ^ k) 1 == 0) = !bitAt s k) (fun n hn => ?_) h0 h63
  have : k = 0 ∨ k = 1 ∨ k = 2 ∨ k = 3 ∨ k = 4 ∨ k = 5 := by omega
  rcases this with rfl | rfl | rfl | rfl | rfl | rfl <;> revert n <;> decide
set_option maxRecDepth 100000 in
theorem bit_spec0 {s : Int} (h0 : 0 ≤ s) (h63 : s ≤ 63) {k : Nat} (h : k < 6) : (bits BinOp.and IntKind.i64 s (2 ^ k) == 0) = !bitAt s k := by
  rw [← bit_spec h0 h63 h]; simp [bne]

def restC (vs : List Vt) (s : Int) (i j : Nat) : Bool := !(bitAt s i && (!bitAt s j && !bt vs i j))
def restB (n : Nat) (vs : List Vt) (s : Int) (i : Nat) : Bool := allN n (restC vs s i)
def restA (n : Nat) (vs : List Vt) (s : Int) : Bool := allN n (restB n vs s)
set_option maxRecDepth 100000 in
theorem rest_no {n : Nat} {vs : List Vt} {s : Int} {i j : Nat} (hi : i < n) (hj : j < n) (h : restC vs s i j = false) : restA n vs s = false := allN_f hi (allN_f hj h)

def topI (n : Nat) (vs : List Vt) : Nat → Int
  | 0 => ((2 ^ n - 1 : Nat) : Int)
  | k + 1 => if cntTo ((k + 1 : Nat) : Int) 6 < cntTo (topI n vs k) 6 ∧ restA n vs ((k + 1 : Nat) : Int) = true then ((k + 1 : Nat) : Int) else topI n vs k
def memL (n : Nat) (s : Int) : List Int := upL n (bitAt s)
def topS (n : Nat) (vs : List Vt) : Nat → List Int
  | 0 => []
  | k + 1 => if restA n vs ((k + 1 : Nat) : Int) = true ∧ (topS n vs k = [] ∨ (memL n ((k + 1 : Nat) : Int)).length < (topS n vs k).length) then memL n ((k + 1 : Nat) : Int) else topS n vs k
def topO (sz : Int) (vs : List Vt) : List Int := if profOk sz vs then topS sz.toNat vs (2 ^ sz.toNat - 1) else []

set_option maxRecDepth 100000 in
theorem memL_len (n : Nat) (s : Int) : ((memL n s).length : Int) = cntTo s n := by
  unfold memL upL cntTo
  rw [List.length_map, List.countP_eq_length_filter]
set_option maxRecDepth 100000 in
theorem cnt6 : ∀ n : Nat, n ≤ 5 → ∀ k : Nat, k < 32 → k < 2 ^ n → cntTo (k : Int) n = cntTo (k : Int) 6 := by decide +kernel
set_option maxRecDepth 100000 in
theorem cnt_less : ∀ n : Nat, n ≤ 5 → ∀ k : Nat, k < 32 → k < 2 ^ n - 1 → cntTo (k : Int) 6 < cntTo ((2 ^ n - 1 : Nat) : Int) 6 := by decide +kernel
set_option maxRecDepth 100000 in
theorem cnt_pos : ∀ k : Nat, k < 32 → 1 ≤ k → 1 ≤ cntTo (k : Int) 6 := by decide +kernel
set_option maxRecDepth 100000 in
theorem full_bit : ∀ n : Nat, n ≤ 5 → ∀ k : Nat, k < 6 → k < n → bitAt ((2 ^ n - 1 : Nat) : Int) k = true := by decide +kernel
set_option maxRecDepth 100000 in
theorem mem_cut0 : ∀ s : Nat, s < 64 → ∀ k : Nat, k < 7 → ∀ n : Nat, n < 7 → (!decide (s < 2 ^ k) || (!decide (s < 2 ^ n) || (memL k (s : Int) == memL n (s : Int)))) = true := by decide +kernel
set_option maxRecDepth 100000 in
theorem mem_cut (s : Nat) (hs : s < 64) (k : Nat) (hk : k < 7) (n : Nat) (hn : n < 7) (h1 : s < 2 ^ k) (h2 : s < 2 ^ n) : memL k (s : Int) = memL n (s : Int) := by
  have h := mem_cut0 s hs k hk n hn
  simpa [h1, h2] using h
set_option maxRecDepth 100000 in
theorem pow_le32 {n : Nat} (h : n ≤ 5) : 2 ^ n ≤ 32 := by
  have : n = 0 ∨ n = 1 ∨ n = 2 ∨ n = 3 ∨ n = 4 ∨ n = 5 := by omega
  rcases this with rfl | rfl | rfl | rfl | rfl | rfl <;> decide
set_option maxRecDepth 100000 in
theorem rest_full {n : Nat} (hn : n ≤ 5) (vs : List Vt) : restA n vs ((2 ^ n - 1 : Nat) : Int) = true :=
  allN_t fun i _ => allN_t fun j hj => by unfold restC; rw [full_bit n hn j (by omega) hj]; simp

set_option maxRecDepth 100000 in
theorem topI_succ (n : Nat) (vs : List Vt) (k s : Nat) (hs : s = k + 1) : topI n vs s = if cntTo (s : Int) 6 < cntTo (topI n vs k) 6 ∧ restA n vs (s : Int) = true then (s : Int) else topI n vs k := by subst hs; rfl
set_option maxRecDepth 100000 in
theorem topS_succ (n : Nat) (vs : List Vt) (k s : Nat) (hs : s = k + 1) : topS n vs s = if restA n vs (s : Int) = true ∧ (topS n vs k = [] ∨ (memL n (s : Int)).length < (topS n vs k).length) then memL n (s : Int) else topS n vs k := by subst hs; rfl
set_option maxRecDepth 100000 in
theorem topI_nat (n : Nat) (vs : List Vt) : ∀ k, k ≤ 2 ^ n - 1 → ∃ t : Nat, topI n vs k = t ∧ t ≤ 2 ^ n - 1
  | 0, _ => ⟨_, rfl, Nat.le_refl _⟩
  | k + 1, hk => by
    unfold topI
    split
    · exact ⟨k + 1, rfl, hk⟩
    · exact topI_nat n vs k (by omega)
set_option maxRecDepth 100000 in
theorem top_rel {n : Nat} (n1 : 1 ≤ n) (hn : n ≤ 5) (vs : List Vt) : ∀ k, k ≤ 2 ^ n - 1 →
    (topS n vs k = [] ∧ topI n vs k = ((2 ^ n - 1 : Nat) : Int) ∧ (k = 2 ^ n - 1 → False)) ∨ (∃ t : Nat, topI n vs k = t ∧ 1 ≤ t ∧ t ≤ 2 ^ n - 1 ∧ topS n vs k = memL n (t : Int))
  | 0, _ => .inl ⟨rfl, rfl, fun h => by
      have : 2 ^ 1 ≤ 2 ^ n := Nat.pow_le_pow_right (by decide) n1
      omega⟩
  | k + 1, hk => by
    have hp := pow_le32 hn
    have h32 : k + 1 < 2 ^ n := by omega
    have hlen : ∀ t : Nat, t ≤ 2 ^ n - 1 → ((memL n (t : Int)).length : Int) = cntTo (t : Int) 6 := fun t ht => by
      rw [memL_len, cnt6 n hn t (by omega) (by omega)]
    rcases top_rel n1 hn vs k (by omega) with ⟨e1, e2, _⟩ | ⟨t, e1, e2, e3, e4⟩
    · by_cases hg : restA n vs ((k + 1 : Nat) : Int) = true
      · refine .inr ⟨k + 1, ?_, by omega, hk, ?_⟩
        · unfold topI
          by_cases hf : k + 1 = 2 ^ n - 1
          · rw [e2]; split
            · rfl
            · rw [hf]
          · rw [if_pos ⟨by rw [e2]; exact cnt_less n hn (k + 1) (by omega) (by omega), hg⟩]
        · unfold topS; rw [if_pos ⟨hg, .inl e1⟩]
      · refine .inl ⟨?_, ?_, fun hf => hg (by rw [hf]; exact rest_full hn vs)⟩
        · unfold topS; rw [if_neg (fun h => hg h.1)]; exact e1
        · unfold topI; rw [if_neg (fun h => hg h.2)]; exact e2
    · have l1 := hlen t e3
      have l2 := hlen (k + 1) hk
      have l3 := cnt_pos t (by omega) e2
      by_cases hc : cntTo ((k + 1 : Nat) : Int) 6 < cntTo (t : Int) 6 ∧ restA n vs ((k + 1 : Nat) : Int) = true
      · refine .inr ⟨k + 1, ?_, by omega, hk, ?_⟩
        · unfold topI; rw [e1, if_pos hc]
        · unfold topS; rw [e4, if_pos ⟨hc.2, .inr (by omega)⟩]
      · refine .inr ⟨t, ?_, e2, e3, ?_⟩
        · unfold topI; rw [e1, if_neg hc]
        · unfold topS; rw [e4, if_neg (fun h => hc ⟨?_, h.1⟩)]
          rcases h.2 with h2 | h2
          · rw [h2] at l1; simp at l1; omega
          · omega
set_option maxRecDepth 100000 in
theorem topO_impl {n : Nat} (n1 : 1 ≤ n) (hn : n ≤ 5) (vs : List Vt) : topS n vs (2 ^ n - 1) = memL n (topI n vs (2 ^ n - 1)) := by
  rcases top_rel n1 hn vs _ (Nat.le_refl _) with ⟨_, _, h⟩ | ⟨t, e1, _, _, e4⟩
  · exact (h rfl).elim
  · rw [e4, e1]
set_option maxRecDepth 100000 in
theorem topS_len (n : Nat) (vs : List Vt) : ∀ k, (topS n vs k).length ≤ n
  | 0 => by simp [topS]
  | k + 1 => by
    unfold topS
    split
    · exact upL_len _ _
    · exact topS_len n vs k
set_option maxRecDepth 100000 in
theorem topO_len (sz : Int) (vs : List Vt) : (topO sz vs).length ≤ 5 := by
  unfold topO
  cases h0 : profOk sz vs
  · simp
  · obtain ⟨n, rfl, n1, n2⟩ := prof_nat h0
    have := topS_len n vs (2 ^ n - 1)
    simp; omega

set_option maxRecDepth 100000 in
theorem shr_pos {s : Int} (h0 : 0 ≤ s) (k : Nat) : (0 < s / 2 ^ k) ↔ ¬ s.toNat < 2 ^ k := by
  obtain ⟨m, rfl⟩ : ∃ m : Nat, s = m := ⟨s.toNat, by omega⟩
  have e : (m : Int) / 2 ^ k = ((m / 2 ^ k : Nat) : Int) := by simp
  rw [e, Int.toNat_natCast]
  have h1 : 0 < 2 ^ k := Nat.pow_pos (by decide)
  constructor
  · intro h h2
    rw [Nat.div_eq_of_lt h2] at h
    simp at h
  · intro h
    have : 1 ≤ m / 2 ^ k := (Nat.one_le_div_iff h1).2 (by omega)
    omega

set_option maxRecDepth 100000 in
theorem OwnI.formL {w : World} {B : Nat} {u : Value} {xs : List Int} (h : OwnI w B u xs) : ∃ a n c, u = .slice a n c ∧ n = xs.length := by
  obtain ⟨a, c, rfl, _⟩ := h.val
  exact ⟨_, _, _, rfl, rfl⟩
set_option maxRecDepth 100000 in
theorem restB_out {n : Nat} {vs : List Vt} {s : Int} {i : Nat} (h : bitAt s i = false) : restB n vs s i = true := allN_t fun j _ => by simp [restC, h]

def sgN (f : Nat → Int) : Nat → Int
  | 0 => 0
  | k + 1 => sgN f k + f k
set_option maxRecDepth 100000 in
theorem sgN_congr {f g : Nat → Int} : ∀ {n : Nat}, (∀ i, i < n → f i = g i) → sgN f n = sgN g n
  | 0, _ => rfl
  | n + 1, h => by rw [sgN, sgN, sgN_congr (fun i hi => h i (by omega)), h n (by omega)]
set_option maxRecDepth 100000 in
theorem sgN_add (f g : Nat → Int) : ∀ n, sgN (fun i => f i + g i) n = sgN f n + sgN g n
  | 0 => rfl
  | n + 1 => by rw [sgN, sgN, sgN, sgN_add f g n]; omega
set_option maxRecDepth 100000 in
theorem sgN_zero : ∀ n, sgN (fun _ => 0) n = 0
  | 0 => rfl
  | n + 1 => by rw [sgN, sgN_zero n]; rfl
set_option maxRecDepth 100000 in
theorem sgN_mul (c : Int) (f : Nat → Int) : ∀ n, sgN (fun i => c * f i) n = c * sgN f n
  | 0 => by simp [sgN]
  | n + 1 => by rw [sgN, sgN, sgN_mul c f n, Int.mul_add]
set_option maxRecDepth 100000 in
theorem sgN_const (c : Int) : ∀ n : Nat, sgN (fun _ => c) n = n * c
  | 0 => by simp [sgN]
  | n + 1 => by rw [sgN, sgN_const c n, Int.natCast_add, Int.add_mul]; simp
set_option maxRecDepth 100000 in
theorem sgN_le {f g : Nat → Int} : ∀ {n : Nat}, (∀ i, i < n → f i ≤ g i) → sgN f n ≤ sgN g n
  | 0, _ => Int.le_refl _
  | n + 1, h => by
    have h1 := sgN_le (f := f) (g := g) (n := n) (fun i hi => h i (by omega))
    have h2 := h n (by omega)
    rw [sgN, sgN]; omega
set_option maxRecDepth 100000 in
theorem sgN_swap (f : Nat → Nat → Int) (m : Nat) : ∀ n, sgN (fun i => sgN (f i) m) n = sgN (fun j => sgN (fun i => f i j) n) m
  | 0 => by simp only [sgN]; exact (sgN_zero m).symm
  | n + 1 => by
    rw [sgN, sgN_swap f m n, ← sgN_add]
    exact sgN_congr (fun j _ => rfl)
set_option maxRecDepth 100000 in
theorem perm_sum {a b : List Int} (h : a.Perm b) : a.sum = b.sum := by
  induction h with
  | nil => rfl
  | cons x _ ih => rw [List.sum_cons, List.sum_cons, ih]
  | swap x y l => rw [List.sum_cons, List.sum_cons, List.sum_cons, List.sum_cons]; omega
  | trans _ _ h1 h2 => rw [h1, h2]
set_option maxRecDepth 100000 in
theorem rowL_sum (f : Nat → Int) : ∀ n, (rowL n f).sum = sgN f n
  | 0 => rfl
  | n + 1 => by rw [rowL_succ, List.sum_append, rowL_sum f n, sgN]; simp
set_option maxRecDepth 100000 in
theorem place_sum {n : Nat} {r : List Int} (h : rkOk n r = true) (f : Nat → Int) : sgN (fun a => f (placeI r a).toNat) n = sgN f n := by
  have hp : (upL n (fun _ => true)).Perm r := (rk_perm h).symm
  have h1 := perm_sum (hp.map (fun x => f (placeI r x).toNat))
  have h2 : (upL n (fun _ => true)).map (fun x => f (placeI r x).toNat) = rowL n (fun a => f (placeI r a).toNat) := by
    rw [← iotaL_up]
    simp [iotaL, rowL]
  have h3 : r.map (fun x => f (placeI r x).toNat) = rowL n f := by
    refine List.ext_getElem? (fun j => ?_)
    have hl : r.length = n := by have := (rk_len h).1; omega
    by_cases hj : j < n
    · obtain ⟨x, hx⟩ := at_of_lt (xs := r) (k := j) (by omega)
      have hm := rk_mem h (List.mem_of_getElem? hx)
      obtain ⟨a, rfl⟩ : ∃ a : Nat, x = a := ⟨x.toNat, by omega⟩
      obtain ⟨k, _, hk, _, hu⟩ := place_at h (show a < n by omega)
      have e := hu j hx
      rw [List.getElem?_map, hx, rowL_at hj, Option.map_some, hk, ← e]
      simp
    · rw [List.getElem?_eq_none (by rw [List.length_map]; omega), List.getElem?_eq_none (by rw [rowL_len]; omega)]
  rw [h2, h3, rowL_sum, rowL_sum] at h1
  exact h1

set_option maxRecDepth 100000 in
theorem SmallV.head {sz : Int} {x : Vt} {vs : List Vt} (h : SmallV sz (x :: vs)) : rkOk sz x.1 = true ∧ 1 ≤ x.2 ∧ x.2 ≤ 1000 := h.2 x (by simp)
set_option maxRecDepth 100000 in
theorem allV_cons (x : Vt) (vs : List Vt) : allV (x :: vs) = x.2 + allV vs := by simp [allV, sumV]
set_option maxRecDepth 100000 in
theorem scoV_cons (f : Nat → Int) (x : Vt) (vs : List Vt) (a : Nat) : scoV f (x :: vs) a = x.2 * f (placeI x.1 a).toNat + scoV f vs a := by simp [scoV]
set_option maxRecDepth 100000 in
theorem allV_nonneg {sz : Int} : ∀ {vs : List Vt}, SmallV sz vs → 0 ≤ allV vs
  | [], _ => by simp [allV, sumV]
  | x :: vs, h => by have := allV_nonneg h.tail; have := h.head; rw [allV_cons]; omega
set_option maxRecDepth 100000 in
theorem allV_pos1 {sz : Int} {vs : List Vt} (h : SmallV sz vs) (hne : 1 ≤ vs.length) : 1 ≤ allV vs := by
  cases vs with
  | nil => simp at hne
  | cons x vs => have := allV_nonneg h.tail; have := h.head; rw [allV_cons]; omega
set_option maxRecDepth 100000 in
/-- Scores add up to the weights of all voters. -/
theorem sco_sum {n : Nat} (f : Nat → Int) : ∀ {vs : List Vt}, SmallV n vs → sgN (scoV f vs) n = sgN f n * allV vs
  | [], _ => by
    have : allV [] = 0 := rfl
    rw [this, Int.mul_zero]
    exact (sgN_congr (fun i _ => rfl)).trans (sgN_zero n)
  | x :: vs, h => by
    have ih := sco_sum f h.tail
    have h1 : sgN (scoV f (x :: vs)) n = sgN (fun a => x.2 * f (placeI x.1 a).toNat) n + sgN (scoV f vs) n := by
      rw [← sgN_add]
      exact sgN_congr (fun a _ => scoV_cons f x vs a)
    rw [h1, ih, sgN_mul, place_sum h.head.1, allV_cons, Int.mul_add, Int.mul_comm]
set_option maxRecDepth 100000 in
theorem pair_tot {n : Nat} {a b : Nat} (ha : a < n) (hb : b < n) (hne : a ≠ b) : ∀ {vs : List Vt}, SmallV n vs → pairV vs a b + pairV vs b a = allV vs
  | [], _ => rfl
  | x :: vs, h => by
    have ih := pair_tot ha hb hne h.tail
    have h1 := pref_tot h.head.1 ha hb hne
    unfold pairV at ih ⊢
    rw [sumV_cons, sumV_cons, allV_cons, h1]
    cases prefB x.1 b a <;> simp <;> omega
set_option maxRecDepth 100000 in
theorem pairW_self (vs : List Vt) (a : Int) : pairV vs a a = 0 := by
  induction vs with
  | nil => rfl
  | cons x vs ih =>
    unfold pairV at ih ⊢
    rw [sumV_cons, ih, pref_self]; rfl
set_option maxRecDepth 100000 in
theorem cnt_above (n k : Nat) : sgN (fun j => if k < j then 1 else 0) n = ((n - 1 - k : Nat) : Int) := by
  have key : ∀ m, sgN (fun j => if k < j then 1 else 0) m = ((m - 1 - k : Nat) : Int) := by
    intro m
    induction m with
    | zero => simp [sgN]
    | succ m ih =>
      rw [sgN, ih]
      by_cases h : k < m
      · rw [if_pos h]; omega
      · rw [if_neg h]; omega
  exact key n
set_option maxRecDepth 100000 in
/-- A voter's points by Borda are the candidates behind. -/
theorem bor_vote {n : Nat} {r : List Int} (h : rkOk n r = true) {a : Nat} (ha : a < n) : sgN (fun b => if prefB r a b then 1 else 0) n = borW n (placeI r a).toNat := by
  obtain ⟨k, hk, hp, _, _⟩ := place_at h ha
  have h1 : sgN (fun b => if prefB r a b then (1 : Int) else 0) n = sgN (fun b => (fun j => if k < j then (1 : Int) else 0) (placeI r b).toNat) n := by
    refine sgN_congr (fun b hb => ?_)
    obtain ⟨q, _, hq, _, _⟩ := place_at h hb
    have e : prefB r a b = decide (k < q) := by
      unfold prefB
      rw [hp, hq]
      have e1 : decide ((0 : Int) ≤ (k : Int)) = true := decide_eq_true (by omega)
      have e2 : decide ((0 : Int) ≤ (q : Int)) = true := decide_eq_true (by omega)
      rw [e1, e2, Bool.true_and, Bool.true_and, decide_eq_decide]
      omega
    rw [hq, e]
    simp
  rw [h1, place_sum h (fun j => if k < j then (1 : Int) else 0), cnt_above n k, hp]
  rfl
set_option maxRecDepth 100000 in
theorem bor_pairs {n : Nat} {a : Nat} (ha : a < n) : ∀ {vs : List Vt}, SmallV n vs → scoV (borW n) vs a = sgN (fun b => pairV vs a b) n
  | [], _ => (sgN_zero n).symm
  | x :: vs, h => by
    rw [scoV_cons, bor_pairs ha h.tail, ← bor_vote h.head.1 ha, ← sgN_mul, ← sgN_add]
    refine sgN_congr (fun b _ => ?_)
    unfold pairV
    rw [sumV_cons]
    cases prefB x.1 a b <;> simp
/-- A veto and a last place are the voters. -/
def lstV (n : Nat) (vs : List Vt) (a : Nat) : Int := scoV (fun j => if j + 1 = n then 1 else 0) vs a
set_option maxRecDepth 100000 in
theorem veto_last {n : Nat} {a : Nat} (ha : a < n) : ∀ {vs : List Vt}, SmallV n vs → scoV (vetW n) vs a + lstV n vs a = allV vs
  | [], _ => rfl
  | x :: vs, h => by
    have ih := veto_last ha h.tail
    obtain ⟨k, hk, hp, _, _⟩ := place_at h.head.1 ha
    unfold lstV at ih ⊢
    rw [scoV_cons, scoV_cons, allV_cons, hp]
    unfold vetW
    simp only [Int.toNat_natCast]
    by_cases e : k + 1 = n
    · rw [if_neg (by omega), if_pos e]
      unfold vetW at ih
      omega
    · rw [if_pos (by omega), if_neg e]
      unfold vetW at ih
      omega

/-- Greater, or as great and earlier. -/
def Bef (sc : Nat → Int) (x y : Int) : Prop := keyS sc y < keyS sc x ∨ (keyS sc x = keyS sc y ∧ x < y)
set_option maxRecDepth 100000 in
theorem insD_bef {sc : Nat → Int} {a : Int} : ∀ {xs : List Int}, xs.Pairwise (Bef sc) → (∀ y ∈ xs, y < a) → (insD (keyS sc) xs a).Pairwise (Bef sc)
  | [], _, _ => by simp [insD]
  | x :: xs, h, hlt => by
    rw [List.pairwise_cons] at h
    have hx := hlt x (by simp)
    unfold insD
    by_cases hk : keyS sc a ≤ keyS sc x
    · rw [List.takeWhile_cons_of_pos (by simpa using hk), List.dropWhile_cons_of_pos (by simpa using hk), List.cons_append, List.pairwise_cons]
      have ih := insD_bef (a := a) h.2 (fun y hy => hlt y (by simp [hy]))
      unfold insD at ih
      refine ⟨fun y hy => ?_, ih⟩
      have hm : y ∈ insD (keyS sc) xs a := hy
      rcases insD_mem.1 hm with rfl | hm
      · unfold Bef; omega
      · exact h.1 y hm
    · rw [List.takeWhile_cons_of_neg (by simpa using hk), List.dropWhile_cons_of_neg (by simpa using hk), List.nil_append, List.pairwise_cons]
      refine ⟨fun y hy => ?_, by rw [List.pairwise_cons]; exact h⟩
      rcases List.mem_cons.1 hy with rfl | hy
      · exact .inl (by omega)
      · have := h.1 y hy
        unfold Bef at this ⊢
        omega
set_option maxRecDepth 100000 in
theorem srk_bef (sc : Nat → Int) : ∀ n, (srk sc n).Pairwise (Bef sc)
  | 0 => by simp [srk, iotaL, rowL, sortD]
  | n + 1 => by
    rw [srk_succ]
    exact insD_bef (srk_bef sc n) (fun y hy => by obtain ⟨i, hi, rfl⟩ := srk_mem hy; omega)
set_option maxRecDepth 100000 in
theorem srk_rk (sc : Nat → Int) {n : Nat} (n1 : 1 ≤ n) (n2 : n ≤ 5) : rkOk n (srk sc n) = true := by
  have hp : (srk sc n).Perm (iotaL n) := sortD_perm _ _
  have hl : (srk sc n).length = n := srk_len _ _
  simp only [rkOk, Bool.and_eq_true, decide_eq_true_eq, List.all_eq_true]
  refine ⟨inR_iff.2 (by omega), by omega, fun x hx => ?_, ?_⟩
  · obtain ⟨i, hi, rfl⟩ := srk_mem hx
    exact inR_iff.2 (by omega)
  · rw [hp.nodup_iff, iotaL_up]; exact upL_nodup _ _
set_option maxRecDepth 100000 in
/-- The first winner is the first of the ranking. -/
theorem best_srk (sc : Nat → Int) {n : Nat} (n1 : 1 ≤ n) : (bestL (rowL n sc)).head? = (srk sc n).head? := by
  have hl : (srk sc n).length = n := srk_len _ _
  obtain ⟨i, r, hb, hi, hin, hno⟩ := best_first (xs := rowL n sc) (by rw [rowL_len]; exact n1)
  rw [rowL_len] at hin
  obtain ⟨hin', hmx⟩ := rowL_val hi
  have hmax : ∀ j, j < n → sc j ≤ sc i := fun j hj => by
    rw [← hmx]
    exact maxL_ge (List.mem_of_getElem? (rowL_at (f := sc) hj))
  have hfst : ∀ j, j < i → sc j ≠ sc i := fun j hj e => by
    refine hno j hj ?_
    rw [rowL_at (f := sc) (by omega), hmx, e]
  cases hs : srk sc n with
  | nil => rw [hs] at hl; simp at hl; omega
  | cons x xs =>
    have hx : x ∈ srk sc n := by rw [hs]; simp
    obtain ⟨k, hk, rfl⟩ := srk_mem hx
    have him : (i : Int) ∈ srk sc n := (sortD_mem (f := keyS sc)).2 (List.mem_of_getElem? (rowL_at (f := fun j => (j : Int)) hin))
    rw [hb, List.head?_cons, List.head?_cons]
    by_cases e : i = k
    · rw [e]
    · exfalso
      rw [hs] at him
      rcases List.mem_cons.1 him with h | h
      · omega
      · have hp := srk_bef sc n
        rw [hs, List.pairwise_cons] at hp
        have h2 := hp.1 _ h
        have h3 := hmax k hk
        unfold Bef keyS at h2
        simp only [Int.toNat_natCast] at h2
        have h4 : k < i → sc k ≠ sc i := hfst k
        rcases h2 with h2 | h2
        · omega
        · exact h4 (by omega) h2.1
set_option maxRecDepth 100000 in
/-- One who is beaten by all others never wins by Borda. -/
theorem loser_not {n : Nat} {vs : List Vt} (hS : SmallV n vs) (hn : 2 ≤ n) {c : Nat} (hc : c < n) (hb : ∀ b, b < n → b ≠ c → pairV vs c b < pairV vs b c) : (c : Int) ∉ bestL (rowL n (scoV (borW n) vs)) := by
  intro hm
  have hm2 : scoV (borW n) vs c = maxL (rowL n (scoV (borW n) vs)) := by
    obtain ⟨i, hi, hq, e⟩ := upL_mem.1 hm
    have hic : i = c := by omega
    subst hic
    unfold isMax at hq
    rw [decide_eq_true_eq] at hq
    have := (rowL_val hq).2
    exact this.symm
  have hle : ∀ a, a < n → scoV (borW n) vs a ≤ scoV (borW n) vs c := fun a ha => by
    rw [hm2]
    exact maxL_ge (List.mem_of_getElem? (rowL_at (f := scoV (borW n) vs) ha))
  have hV := allV_nonneg hS
  -- twice the loser's points are fewer than (n-1) times the voters
  have h1 : 2 * scoV (borW n) vs c ≤ sgN (fun b => if b = c then 0 else allV vs - 1) n := by
    rw [bor_pairs hc hS, ← sgN_mul]
    refine sgN_le (fun b hbn => ?_)
    by_cases e : b = c
    · rw [if_pos e, e, pairW_self]; decide
    · rw [if_neg e]
      have h2 := hb b hbn e
      have h3 := pair_tot hc hbn (fun h => e h.symm) hS
      omega
  have h2 : ∀ k, sgN (fun b => if b = c then 0 else allV vs - 1) k = ((if c < k then (k : Int) - 1 else k)) * (allV vs - 1) := by
    intro k
    induction k with
    | zero => simp [sgN]
    | succ k ih =>
      rw [sgN, ih]
      generalize allV vs - 1 = D
      by_cases h : c < k
      · have e1 : ¬ k = c := by omega
        have e2 : c < k + 1 := by omega
        simp only [if_pos h, if_neg e1, if_pos e2]
        rw [Int.natCast_add, Int.natCast_one, Int.sub_mul, Int.sub_mul, Int.add_mul]
        omega
      · by_cases h' : k = c
        · have e2 : c < k + 1 := by omega
          simp only [if_neg h, if_pos h', if_pos e2]
          rw [Int.natCast_add, Int.natCast_one, Int.sub_mul, Int.add_mul]
          omega
        · have e2 : ¬ c < k + 1 := by omega
          simp only [if_neg h, if_neg h', if_neg e2]
          rw [Int.natCast_add, Int.natCast_one, Int.add_mul]
          omega
  rw [h2 n, if_pos hc] at h1
  -- all points together
  have h3 := sco_sum (n := n) (borW n) hS
  have h4 : sgN (scoV (borW n) vs) n ≤ n * scoV (borW n) vs c := by
    rw [← sgN_const]
    exact sgN_le hle
  have h5 : ∀ k, k ≤ n → 2 * sgN (borW n) k = (k : Int) * (2 * (n : Int) - 1 - k) := by
    intro k
    induction k with
    | zero => intro _; simp [sgN]
    | succ k ih =>
      intro hk
      rw [sgN, Int.mul_add, ih (by omega)]
      unfold borW
      have e1 : ((n - 1 - k : Nat) : Int) = (n : Int) - 1 - k := by omega
      rw [e1]
      rw [Int.natCast_add, Int.natCast_one]
      generalize (n : Int) = N
      generalize (k : Int) = K
      have e2 : (K + 1) * (2 * N - 1 - (K + 1)) = K * (2 * N - 1 - K) + 2 * (N - 1 - K) := by
        simp only [Int.add_mul, Int.mul_add, Int.mul_sub, Int.one_mul, Int.mul_one]
        omega
      rw [e2]
  have h6 := h5 n (Nat.le_refl _)
  rw [h3] at h4
  generalize sgN (borW n) n = T at h4 h6
  generalize scoV (borW n) vs c = s at h1 h4
  generalize allV vs = V at h1 h4 hV
  have e7 : 2 * (T * V) = (n : Int) * ((n : Int) - 1) * V := by
    rw [← Int.mul_assoc, h6]
    congr 2
    omega
  -- n (n-1) V <= 2 n s <= n (n-1) (V-1)
  have h8 : (n : Int) * (2 * s) ≤ (n : Int) * (((n : Int) - 1) * (V - 1)) := Int.mul_le_mul_of_nonneg_left h1 (by omega)
  have e8 : (n : Int) * (2 * s) = 2 * ((n : Int) * s) := by rw [← Int.mul_assoc, Int.mul_comm (n : Int) 2, Int.mul_assoc]
  have e9 : (n : Int) * (((n : Int) - 1) * (V - 1)) = (n : Int) * ((n : Int) - 1) * V - (n : Int) * ((n : Int) - 1) := by rw [← Int.mul_assoc, Int.mul_sub, Int.mul_one]
  have h9 : 0 < (n : Int) * ((n : Int) - 1) := Int.mul_pos (by omega) (by omega)
  omega

set_option maxRecDepth 100000 in
theorem those_iff {n : Nat} {p : Nat → Nat → Bool} {i : Nat} : thoseP n p i = true ↔ ∀ j, j < n → j ≠ i → p i j = true := by
  unfold thoseP
  rw [allN_iff]
  constructor
  · intro h j hj hne
    have := h j hj
    simpa [show ¬ i = j from fun e => hne e.symm] using this
  · intro h j hj
    by_cases e : i = j
    · simp [e]
    · simp [e, h j hj (fun h => e h.symm)]
set_option maxRecDepth 100000 in
theorem thoseO_eq {n : Nat} {vs : List Vt} (h0 : profOk n vs = true) (p : Nat → Nat → Bool) : thoseO n vs p = upL n (thoseP n p) := by
  unfold thoseO; rw [if_pos h0, Int.toNat_natCast]
set_option maxRecDepth 100000 in
/-- The one who beats all others. -/
theorem win_cases {n : Nat} {vs : List Vt} (h0 : profOk n vs = true) : (∃ w : Nat, w < n ∧ winnerO n vs = w ∧ ∀ j, j < n → j ≠ w → bt vs w j = true) ∨ (winnerO n vs = -1 ∧ ∀ w, w < n → ¬ ∀ j, j < n → j ≠ w → bt vs w j = true) := by
  unfold winnerO
  rw [thoseO_eq h0]
  by_cases h : ∃ w, w < n ∧ thoseP n (bt vs) w = true
  · obtain ⟨w, hw, ht⟩ := h
    have hb := those_iff.1 ht
    refine .inl ⟨w, hw, ?_, hb⟩
    rw [upL_one hw ht (fun j hj hq => ?_)]
    · rfl
    · by_cases e : j = w
      · exact e
      · have h1 := hb j hj e
        have h2 := those_iff.1 hq w hw (fun h => e h.symm)
        rw [bt_anti vs _ _ h1] at h2
        cases h2
  · refine .inr ⟨?_, fun w hw hb => h ⟨w, hw, those_iff.2 hb⟩⟩
    rw [upL_none (fun j hj => ?_)]
    · rfl
    · cases hq : thoseP n (bt vs) j
      · rfl
      · exact absurd ⟨j, hj, hq⟩ h

end Go.Proofs.YtfmeklgdaabooaaGreatDoor
