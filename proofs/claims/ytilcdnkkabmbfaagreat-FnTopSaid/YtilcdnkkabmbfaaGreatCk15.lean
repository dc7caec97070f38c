/- The distance of a ranking by swaps, of the program, and the first ranking with the least one. slices' insertion sort with a function, over lists of integers. Lists of lists as entries: where each row lies and what it holds. Rows appended to a list of rows of the call's own. -/
import Derived.Test.YtilcdnkkabmbfaaGreatCk14
import Derived.Test.YtilcdnkkabmbfaaGreatCk11
import Derived.Test.YtilcdnkkabmbfaaGreatCk9
namespace Go.Proofs.YtilcdnkkabmbfaaGreat
open Go.RowKit

set_option maxRecDepth 100000 in
set_option maxHeartbeats 1000000 in
theorem isRk_impl (w : World) (a : Option Addr) (c n : Nat) (xs : List Int) (hx : rkOk n xs = true) (hR : RdI w a xs) (hl : xs.length = n) (hc : n ≤ c) (n1 : inR (n : Int) 1 5 = true) :
    Calls Tryz.prog 117 #[.slice a n c] w fun e w' => e = .returned (.bool true) ∧ Ext w w' := by
  have h1 := rank_impl_n w n a c xs hR hl hc n1
  rw [hx] at h1
  have H1 := hide h1
  clear hx h1 hl hR
  go_enter Tryz.func117, Tryz.ntmps117
  go_wp2_with fail
  refine H1.out.mono ?_
  rintro e w1 ⟨rfl, hw1⟩
  go_wp2
  go_ret
  exact ⟨rfl, hw1⟩

set_option maxRecDepth 100000 in
set_option maxHeartbeats 4000000 in
theorem swap_impl (w : World) (a a2 : Option Addr) (c c2 : Nat) (n : Nat) (xs r : List Int) (hx : rkOk n xs = true) (hr : rkOk n r = true) (hR : RdI w a xs) (hR2 : RdI w a2 r) (hc : xs.length ≤ c) (hc2 : r.length ≤ c2) (n1 : inR (n : Int) 1 5 = true) :
    Calls Tryz.prog 157 #[.slice a xs.length c, .slice a2 r.length c2] w fun e w' => e = .returned (.int .i64 (swapN xs r : Nat)) ∧ Ext w w' := by
  have l1 := rk_len hx
  have l2 := rk_len hr
  have hxn : xs.length = n := by omega
  have hrn : r.length = n := by omega
  have n2 : n ≤ 5 := by omega
  have HX := hide hx
  have HR := hide hr
  have HXN := hide hxn
  have HRN := hide hrn
  rw [hxn] at hc
  rw [hrn] at hc2
  rw [hxn, hrn]
  clear hx hr l1 l2 hxn hrn
  obtain ⟨q, hq⟩ : ∃ q : Int → Int → Bool, q = fun y x => prefB r y x := ⟨_, rfl⟩
  have HQ : Hid (swapN xs r = bkI q xs) := hide (by rw [hq]; rfl)
  have HP : Hid (∀ (x y : Int) (w' : World), Ext w w' → Calls Tryz.prog 62 #[.slice a2 n c2, .int .i64 y, .int .i64 x] w' fun e w'' => e = .returned (.bool (q y x)) ∧ Ext w' w'') := fun x y w' hw' => by
    have h := pref_impl w' a2 c2 r y x (hR2.ext hw') (by rw [HRN.out]; omega)
    rw [HRN.out] at h
    rw [hq]
    exact h
  clear hq
  go_enter Tryz.func157, Tryz.ntmps157
  go_wp2_with (first
    | (go_at_call 117; refine (isRk_impl _ a c n xs HX.out (hR.ext (by repeat (first | exact Ext.refl _ | assumption | refine Ext.alloc ?_ _ | refine Ext.drew ?_ | refine Ext.trans ?_ (by assumption)))) HXN.out hc n1).mono ?_; rintro e w1 ⟨rfl, hw1⟩)
    | (go_at_call 117; refine (isRk_impl _ a2 c2 n r HR.out (hR2.ext (by repeat (first | exact Ext.refl _ | assumption | refine Ext.alloc ?_ _ | refine Ext.drew ?_ | refine Ext.trans ?_ (by assumption)))) HRN.out hc2 n1).mono ?_; rintro e w1 ⟨rfl, hw1⟩))
  have hw : Ext w w1 := (by repeat (first | exact Ext.refl _ | assumption | refine Ext.alloc ?_ _ | refine Ext.drew ?_ | refine Ext.trans ?_ (by assumption)))
  obtain ⟨wb, hwb⟩ : ∃ wb : World, wb = w1 := ⟨_, rfl⟩
  subst hwb
  clear hw1
  go_loopw [5, 6, 7, 9, 27, 35, 36, 37] (fun s _ _ _ i _ _ _ wr => ∃ j : Nat, j ≤ n ∧ i = .int .i64 j ∧ s = .int .i64 (bkTo q xs j : Nat) ∧ Ext wb wr) (fun _ _ _ _ i _ _ _ _ => n - (intOf i).toNat)
  case atStart => exact ⟨0, Nat.zero_le _, rfl, rfl, Ext.refl _⟩
  case round =>
    obtain ⟨j, hj, rfl, rfl, hwr⟩ := hrel
    have hbd := bkTo_bd q xs j
    rw [HXN.out] at hbd
    have hbd2 : bkTo q xs j ≤ 5 * 5 := Nat.le_trans hbd (Nat.mul_le_mul (by omega) n2)
    by_cases hjt : j < n
    · obtain ⟨x, hx⟩ := at_of_lt (xs := xs) (k := j) (by rw [HXN.out]; exact hjt)
      have hxm := List.mem_of_getElem? hx
      obtain ⟨b, off, rfl, c0⟩ := (hR.ext (hw.trans hwr)).at_ hx
      have hRd := (hR.ext (hw.trans hwr)).drop (n := off + (j + 1)) (j + 1) c (by rw [HXN.out]; exact hc) rfl
      have i1 : (j : Int) + 1 ≤ (c : Int) := by omega
      have i2 : j ≤ c := by omega
      have i3 : j + 1 ≤ c := by omega
      have i4 : j + 1 ≤ n := by omega
      have i7 : (j : Int) + 1 ≤ (n : Int) := by omega
      have i5 : ((j : Int) + 1).toNat = j + 1 := by omega
      have i6 : (0 : Int) ≤ (j : Int) + 1 := by omega
      have y1 : wrap64 ((j : Int) + 1) = (j : Int) + 1 := IntWalk.wrap64_in _ (by omega)
      have y2 : IntKind.i64.wrap ((j : Int) + 1) = (j : Int) + 1 := IntWalk.i64_in _ (by omega)
      have hgd : xs.getD j 0 = x := by simp [List.getD, hx]
      have hsu : bkTo q xs (j + 1) = bkTo q xs j + ((xs.drop (j + 1)).countP (fun y => q y x)) := by rw [bkTo, hgd]
      have HSU := hide hsu
      have hdl : (xs.drop (j + 1)).length = n - (j + 1) := by rw [List.length_drop, HXN.out]
      have HDL := hide hdl
      have HDM : Hid (∀ y ∈ xs.drop (j + 1), y ∈ xs) := fun y hy => List.mem_of_mem_drop hy
      clear hx hgd hsu hdl
      go_wp2_with fail
      all_goals
        first | rw [if_pos (by assumption)] at hRd | rw [if_neg (by assumption)] at hRd
        first | subst h | clear h
        clear i1 i2 i3 i4 i5 i6 i7 y1 y2
        generalize xs.drop (j + 1) = ys at hRd HSU HDL HDM
        obtain ⟨wo, hwo⟩ : ∃ wo : World, wo = wr := ⟨_, rfl⟩
        subst hwo
        go_loopw [5, 9, 37] (fun s _ i wr => ∃ m : Nat, m ≤ n - (j + 1) ∧ i = .int .i64 m ∧ s = .int .i64 ((bkTo q xs j : Int) + ((ys.take m).countP (fun y => q y x) : Int)) ∧ Ext wo wr) (fun _ _ i _ => n - (j + 1) - (intOf i).toNat)
        case atStart => exact ⟨0, Nat.zero_le _, rfl, by simp, Ext.refl _⟩
        case round =>
          obtain ⟨m, hm, rfl, rfl, hwr2⟩ := hrel
          by_cases hmt : m < n - (j + 1)
          · obtain ⟨y, hy⟩ := at_of_lt (xs := ys) (k := m) (by have := HDL.out; omega)
            obtain ⟨b2, off2, hb2, d0⟩ := (hRd.ext hwr2).at_ hy
            injection hb2 with hb2
            injection hb2 with hb2 hb3
            subst hb2
            subst hb3
            have hcm := List.countP_le_length (p := fun y => q y x) (l := ys.take m)
            rw [List.length_take] at hcm
            have hm2 : (ys.take m).countP (fun y => q y x) ≤ 5 := by omega
            have y3 : wrap64 ((bkTo q xs j : Int) + ((ys.take m).countP (fun y => q y x) : Int) + 1) = (bkTo q xs j : Int) + ((ys.take m).countP (fun y => q y x) : Int) + 1 := IntWalk.wrap64_in _ (by omega)
            have HN := hide (countP_at (p := fun y => q y x) hy)
            have hym := HDM.out y (List.mem_of_getElem? hy)
            clear hy hcm
            have HC := hide (HP.out x y wr (hw.trans (hwr.trans hwr2)))
            cases hq : q y x
            all_goals
              rw [hq] at HC HN
              go_wp2_with fail
              all_goals refine HC.out.mono ?_
              all_goals rintro e w1 ⟨rfl, hw1⟩
              all_goals go_wp2
              all_goals refine ⟨⟨m + 1, by omega, by go_num, ?_, hwr2.trans hw1⟩, by simp [intOf]; omega⟩
              all_goals rw [HN.out]
              all_goals simp
              all_goals omega
          · have hmn : m = n - (j + 1) := by omega
            have hyl := HDL.out
            go_wp2
            refine ⟨⟨j + 1, by omega, by go_num, ?_, hwr.trans hwr2⟩, by simp [intOf]; omega⟩
            rw [HSU.out, List.take_of_length_le (by omega), Int.natCast_add]
    · have hjn : j = n := by omega
      go_wp2
      go_ret
      exact ⟨ret_int (by rw [hjn, HQ.out, ← HXN.out, bkTo_all]), hw.trans hwr⟩

set_option maxRecDepth 100000 in
set_option maxHeartbeats 4000000 in
theorem kemS_impl (w : World) (n : Nat) (a ar : Option Addr) (c cr : Nat) (vs : List Vt) (r : List Int) (hR : RdV w a vs) (hRr : RdI w ar r) (h0 : profOk n vs = true) (hr : rkOk n r = true) (hcr : r.length ≤ cr) :
    Calls Tryz.prog 115 #[.agg #[.int .i64 n, .slice a vs.length c], .slice ar r.length cr] w fun e w' => e = .returned (.int .i64 (kemV vs r)) ∧ Ext w w' := by
  have q0 := new0 w (.int .i64 n) [.slice a vs.length c] 29
  have q1 := new1 w (.int .i64 n) (.slice a vs.length c) [] 29
  have HS := hide (prof_small h0)
  have hin : inR (n : Int) 1 5 = true := inR_iff.2 (by have := prof_size h0; omega)
  have hrn : r.length = n := by have := (rk_len hr).1; omega
  have HRK := hide hr
  have HRN := hide hrn
  have n2 : n ≤ 5 := by have := prof_size h0; omega
  rw [hrn] at hcr ⊢
  clear hr hrn
  go_enter Tryz.func115, Tryz.ntmps115
  have HRO : Hid (∀ w', Ext w w' → Calls Tryz.prog 80 #[.int .i64 n, .slice ar n cr] w' fun e w'' => e = .returned (.bool true) ∧ Ext w' w'') := fun w' hw' => by
    have h := rank_impl_n w' n ar cr r (hRr.ext hw') HRN.out hcr hin
    rw [HRK.out] at h
    exact h
  go_wp2_with (first
    | (go_at_call 36; refine (prof_impl _ _ _ _ _ (hR.ext (by repeat (first | exact Ext.refl _ | assumption | refine Ext.alloc ?_ _ | refine Ext.drew ?_ | refine Ext.trans ?_ (by assumption))))).mono ?_; rintro e w1 ⟨rfl, hw1⟩; have q0 := Ext.keep (w' := w1) (by repeat (first | exact Ext.refl _ | assumption | refine Ext.alloc ?_ _ | refine Ext.drew ?_ | refine Ext.trans ?_ (by assumption))) q0; have q1 := Ext.keep (w' := w1) (by repeat (first | exact Ext.refl _ | assumption | refine Ext.alloc ?_ _ | refine Ext.drew ?_ | refine Ext.trans ?_ (by assumption))) q1)
    | (go_at_call 80; refine (HRO.out _ (by repeat (first | exact Ext.refl _ | assumption | refine Ext.alloc ?_ _ | refine Ext.drew ?_ | refine Ext.trans ?_ (by assumption)))).mono ?_; rintro e w1 ⟨rfl, hw1⟩; have q0 := Ext.keep (w' := w1) (by repeat (first | exact Ext.refl _ | assumption | refine Ext.alloc ?_ _ | refine Ext.drew ?_ | refine Ext.trans ?_ (by assumption))) q0; have q1 := Ext.keep (w' := w1) (by repeat (first | exact Ext.refl _ | assumption | refine Ext.alloc ?_ _ | refine Ext.drew ?_ | refine Ext.trans ?_ (by assumption))) q1))
  have hw : Ext w w1 := (by repeat (first | exact Ext.refl _ | assumption | refine Ext.alloc ?_ _ | refine Ext.drew ?_ | refine Ext.trans ?_ (by assumption)))
  obtain ⟨wb, hwb⟩ : ∃ wb : World, wb = w1 := ⟨_, rfl⟩
  subst hwb
  clear hw1 HRO
  have hvl := HS.out.1
  go_loopw [5, 7, 21] (fun s _ i wr => ∃ k : Nat, k ≤ vs.length ∧ i = .int .i64 k ∧ s = .int .i64 (kemV (vs.take k) r) ∧ Ext wb wr) (fun _ _ i _ => vs.length - (intOf i).toNat)
  case atStart => exact ⟨0, Nat.zero_le _, rfl, rfl, Ext.refl _⟩
  case round =>
    obtain ⟨k, hk, rfl, rfl, hwr⟩ := hrel
    have hbd := kemV_bd (r := r) HS.out k hk
    by_cases hkt : k < vs.length
    · obtain ⟨x, hx⟩ := at_of_lt hkt
      obtain ⟨b, off, a', c', rfl, c0, c1, hc', hRx⟩ := (hR.ext (hw.trans hwr)).at_ hx
      have hxs := HS.out.2 x (List.mem_of_getElem? hx)
      have hxl : x.1.length = n := by have := (rk_len hxs.1).1; omega
      have hsb := swapN_bd (r := r) (rk_len hxs.1).2
      have hp1 : 0 ≤ x.2 * (swapN x.1 r : Int) := Int.mul_nonneg (by omega) (by omega)
      have hp2 : x.2 * (swapN x.1 r : Int) ≤ 1000 * 25 := Int.mul_le_mul (by omega) (by omega) (by omega) (by omega)
      have HN := hide (kemV_at (r := r) hx)
      have HC : Hid (∀ w', Ext wr w' → Calls Tryz.prog 157 #[.slice a' x.1.length c', .slice ar n cr] w' fun e w'' => e = .returned (.int .i64 (swapN x.1 r : Nat)) ∧ Ext w' w'') := fun w' hw' => by
        have h := swap_impl w' a' ar c' cr n x.1 r hxs.1 HRK.out (hRx.ext hw') (hRr.ext ((hw.trans hwr).trans hw')) hc' (by rw [HRN.out]; exact hcr) hin
        rw [HRN.out] at h
        exact h
      have e0 := new0 wr (.slice a' x.1.length c') [.int .i64 x.2] 55
      have e1 := new1 wr (.slice a' x.1.length c') (.int .i64 x.2) [] 55
      have y1 : IntKind.i64.wrap (x.2 * (swapN x.1 r : Int)) = x.2 * (swapN x.1 r : Int) := IntWalk.i64_in _ (by omega)
      have y2 : IntKind.i64.wrap (kemV (vs.take k) r + x.2 * (swapN x.1 r : Int)) = kemV (vs.take k) r + x.2 * (swapN x.1 r : Int) := IntWalk.i64_in _ (by omega)
      clear hx hxs hxl hsb hp1 hp2 hRx hbd
      go_wp2
      refine wp_region_X (by kernel_rfl) (by kernel_rfl) ?_
      repeat' (refine wpX_stepQ (fun K hK => ?_)
               go_simp
               try (rw [if_neg (by intro h; simp [undef] at h)])
               try split
               all_goals
                 first
                 | (refine hK _ ?_
                    clear hK K)
                 | (apply Exists.intro
                    refine ⟨fun wq hwq => ?_, hK _ ?_⟩
                    · have hcq := hwq.cellS
                      go_simp
                      first
                      | exact ⟨Ext.refl _, rfl⟩
                      | exact ⟨Ext.refl _, HC.out _ (by repeat (first | exact Ext.refl _ | assumption | refine Ext.alloc ?_ _ | refine Ext.drew ?_ | refine Ext.trans ?_ (by assumption)))⟩
                    clear hK K))
      refine wpX_nil (fun wz hwz => ?_)
      go_wp2
      exact ⟨⟨k + 1, by omega, by go_num, by rw [HN.out], (by repeat (first | exact Ext.refl _ | assumption | refine Ext.alloc ?_ _ | refine Ext.drew ?_ | refine Ext.trans ?_ (by assumption)))⟩, by simp [intOf]; omega⟩
    · have HK : Hid (kemV (vs.take k) r = kemV vs r) := hide (by rw [List.take_of_length_le (by omega)])
      go_wp2
      go_ret
      exact ⟨ret_int HK.out, hw.trans hwr⟩

set_option maxRecDepth 100000 in
set_option maxHeartbeats 1000000 in
theorem kem_impl (w : World) (sz : Int) (a : Option Addr) (c : Nat) (vs : List Vt) (hR : RdV w a vs) (h0 : profOk sz vs = true) :
    Calls Tryz.prog 52 #[.agg #[.int .i64 sz, .slice a vs.length c]] w fun e w' => ∃ v, e = .returned v ∧ OwnI w' w.heap.size v (kemO sz vs) ∧ Ext w w' := by
  obtain ⟨n, rfl, n1, n2⟩ := prof_nat h0
  have q0 := new0 w (.int .i64 n) [.slice a vs.length c] 29
  have q1 := new1 w (.int .i64 n) (.slice a vs.length c) [] 29
  have hE := Ext.new w (.cells #[.int .i64 n, .slice a vs.length c] 29)
  have hl := least_impl 114 #[] #[.pointer (some ⟨w.heap.size, 0, none⟩)] (kemV vs) _ n a c vs (hR.ext hE) h0 n1 n2 Tryz.call114
    (fun r a' c' w' hr hc hRr hw' => by
      have r0 := hw'.keep q0
      have r1 := hw'.keep q1
      have HC := hide (fun w'' (hw'' : Ext w' w'') => kemS_impl w'' n a a' c c' vs r ((hR.ext hE).ext (hw'.trans hw'')) (hRr.ext hw'') h0 hr hc)
      show Calls Tryz.prog 114 #[.slice a' r.length c', .pointer (some ⟨w.heap.size, 0, none⟩)] w' _
      go_enter Tryz.func114, Tryz.ntmps114
      go_wp2_with fail
      refine (HC.out _ (by repeat (first | exact Ext.refl _ | assumption | refine Ext.alloc ?_ _ | refine Ext.drew ?_ | refine Ext.trans ?_ (by assumption)))).mono ?_
      rintro e w1 ⟨rfl, hw1⟩
      go_wp2
      go_ret
      exact ⟨rfl, hw1⟩)
  have HC := hide hl
  have HK : Hid (kemO n vs = (lstR (kemV vs) n).1) := hide (by simp [kemO, lstO, h0])
  clear hl h0
  go_enter Tryz.func52, Tryz.ntmps52
  go_wp2_with fail
  refine HC.out.mono ?_
  rintro e w1 ⟨v, rfl, hv, hw1⟩
  go_wp2
  go_ret
  exact ⟨_, rfl, by rw [HK.out]; exact hv.base (by simp), hE.trans hw1⟩

/-- A list in memory: where it lies, and what it holds. -/
structure RowE where
  a : Option Addr
  n : Nat
  c : Nat
  xs : List Int
def rowV (e : RowE) : Value := .slice e.a e.n e.c

set_option maxRecDepth 100000 in
set_option maxHeartbeats 8000000 in
theorem insR_impl (K : Nat) (fst cap : Array Value) (key : RowE → Int) (d : RowE → RowE → Int) (w : World) (g n c : Nat) (ys : List RowE) (hn : ys.length = n) (hn2 : n ≤ 1000) (hB : BlkF w g n (memF rowV ys)) (hK : Enters Tryz.prog K)
    (hd : ∀ x y, d x y < 0 ↔ key y < key x)
    (hf : ∀ (x y : RowE) (w' : World), x ∈ ys → y ∈ ys → Only g w w' → Calls Tryz.prog K (fst ++ (#[.slice x.a x.n x.c, .slice y.a y.n y.c] ++ cap)) w' fun e w'' => e = .returned (.int .i64 (d x y)) ∧ Ext w' w'') :
    Calls Tryz.prog 192 #[.slice (some ⟨g, 0, none⟩) n c, .int .i64 0, .int .i64 n, .func (.func K) fst cap] w fun e w' => e = .returned (.tuple #[]) ∧ BlkF w' g n (memF rowV (sortD key ys)) ∧ Only g w w' := by
  unfold Enters at hK
  have HF := hide hf
  have HD := hide hd
  have HN := hide hn
  clear hf hd hn
  go_enter Tryz.func192, Tryz.ntmps192
  go_wp2_with fail
  go_loopw [8, 9] (fun i _ wr => ∃ k : Nat, 1 ≤ k ∧ (k ≤ n ∨ k = 1) ∧ i = .int .i64 k ∧ BlkF wr g n (memF rowV (sortD key (ys.take k) ++ ys.drop k)) ∧ Only g w wr) (fun i _ _ => n - (intOf i).toNat)
  case atStart =>
    refine ⟨1, Nat.le_refl _, .inr rfl, rfl, ?_, Only.refl _ _⟩
    have : sortD key (ys.take 1) ++ ys.drop 1 = ys := by
      cases ys with
      | nil => rfl
      | cons y ys => simp [sortD, insD]
    rw [this]; exact hB
  case round =>
    clear hB
    obtain ⟨i, hi1, hi, rfl, hB, hw⟩ := hrel
    by_cases hit : i < n
    · obtain ⟨x, hx⟩ := at_of_lt (xs := ys) (k := i) (by have := HN.out; omega)
      have hxm := List.mem_of_getElem? hx
      obtain ⟨S, hS⟩ : ∃ S, S = sortD key (ys.take i) := ⟨_, rfl⟩
      obtain ⟨R, hR⟩ : ∃ R, R = ys.drop (i + 1) := ⟨_, rfl⟩
      have hSl : S.length = i := by rw [hS, sortD_len, List.length_take]; have := HN.out; omega
      have hRl : R.length = n - (i + 1) := by rw [hR, List.length_drop, HN.out]
      have hSm : ∀ y ∈ S, y ∈ ys := fun y hy => List.mem_of_mem_take (sortD_mem.1 (by rw [hS] at hy; exact hy))
      have hSd : DescK key S := by rw [hS]; exact sortD_desc _ _
      have h0 : sortD key (ys.take i) ++ ys.drop i = layL S x R i := by
        rw [← hSl, layL_end, hS, hR, sortD_len, List.length_take, Nat.min_eq_left (by have := HN.out; omega), List.drop_eq_getElem_cons (by have := HN.out; omega)]
        rw [List.getElem?_eq_getElem (by have := HN.out; omega)] at hx
        injection hx with hx
        rw [hx]
      have h1 : ∀ j, insD key S x = S.take j ++ x :: S.drop j → sortD key (ys.take (i + 1)) ++ ys.drop (i + 1) = layL S x R j := fun j hj => by
        rw [sortD_at hx, ← hS, hj, ← hR]; simp [layL]
      rw [h0] at hB
      have H1 := hide h1
      have HSL := hide hSl
      have HRL := hide hRl
      have HSM := hide hSm
      have HSD := hide hSd
      clear hx hS hR h0 h1 hSl hRl hSm hSd
      go_wp2_with fail
      obtain ⟨wo, hwo⟩ : ∃ wo : World, wo = wr := ⟨_, rfl⟩
      subst hwo
      go_loopw [9] (fun jj wr => ∃ j : Nat, j ≤ i ∧ jj = .int .i64 j ∧ BlkF wr g n (memF rowV (layL S x R j)) ∧ Hid (∀ y ∈ S.drop j, key y < key x) ∧ Only g w wr) (fun jj _ => (intOf jj).toNat)
      case atStart => exact ⟨i, Nat.le_refl _, rfl, hB, (fun y hy => by rw [List.drop_of_length_le (by rw [HSL.out]; exact Nat.le_refl _)] at hy; simp at hy), hw⟩
      case round =>
        clear hB hw
        obtain ⟨j, hj, rfl, hB, hlow, hw⟩ := hrel
        by_cases hj0 : j = 0
        · subst hj0
          have H2 := hide (H1.out 0 (insD_stop HSD.out (.inl rfl) hlow.out))
          go_wp2
          refine wp_region_X (by kernel_rfl) (by kernel_rfl) ?_
          repeat' (refine wpX_stepQ (fun K hK => ?_)
                   go_simp
                   try (rw [if_neg (by intro h; simp [undef] at h)])
                   try split
                   all_goals
                     first
                     | (refine hK _ ?_
                        clear hK K)
                     | (apply Exists.intro
                        refine ⟨fun wq hwq => ?_, hK _ ?_⟩
                        · have hcq := hwq.cellS
                          go_simp
                          first
                          | exact ⟨Ext.refl _, rfl⟩
                        clear hK K))
          refine wpX_nil (fun wz hwz => ?_)
          go_wp2
          exact ⟨⟨i + 1, by omega, by omega, by go_num, by rw [H2.out]; exact hB.ext hwz, hw.trans (Only.of_ext hwz)⟩, by simp [intOf]; omega⟩
        · obtain ⟨m, hm⟩ : ∃ m : Nat, j = m + 1 := ⟨j - 1, by omega⟩
          subst hm
          have hSn := HSL.out
          obtain ⟨y, hy⟩ := at_of_lt (xs := S) (k := m) (by omega)
          have hym := HSM.out y (List.mem_of_getElem? hy)
          have a1 : (layL S x R (m + 1))[m + 1]? = some x := by rw [layL_at (by omega), if_neg (by omega), if_pos rfl]
          have a2 : (layL S x R (m + 1))[m]? = some y := by rw [layL_at (by omega), if_pos (by omega)]; exact hy
          have d0 := hB.cell (m + 1) (by omega)
          have d1 := hB.cell m (by omega)
          rw [memF_at a1, rowV] at d0
          rw [memF_at a2, rowV] at d1
          have z0 := hB.fr (m + 1)
          have z1 := hB.fr m
          have HC : Hid (∀ w', Ext wr w' → Calls Tryz.prog K (fst ++ (#[.slice x.a x.n x.c, .slice y.a y.n y.c] ++ cap)) w' fun e w'' => e = .returned (.int .i64 (d x y)) ∧ Ext w' w'') := fun w' hw' => HF.out x y w' hxm hym (hw.trans (Only.of_ext hw'))
          have y1 : wrap64 ((m : Int) + 1 - 1) = m := by rw [IntWalk.wrap64_in _ (by omega)]; omega
          have y2 : IntKind.i64.wrap ((m : Int) + 1 - 1) = m := by rw [IntWalk.i64_left]; exact y1
          have y3 : wrap64 (m : Int) = m := IntWalk.wrap64_in _ (by omega)
          have y4 : IntKind.i64.wrap (m : Int) = m := IntWalk.i64_in _ (by omega)
          have i1 : (m : Int) + 1 < (n : Int) := by omega
          have i2 : (0 : Int) ≤ (m : Int) + 1 := by omega
          have i3 : ((m : Int) + 1).toNat = m + 1 := by omega
          have i4 : m < n := by omega
          have i5 : m + 1 < n := by omega
          have HB := hide hB
          have HY := hide hy
          have A1 := hide a1
          have A2 := hide a2
          clear hB a1 a2 hy hSn
          by_cases hlt : key y < key x
          · have t1 : d x y < 0 := (HD.out x y).2 hlt
            go_wp2
            refine wp_region_X (by kernel_rfl) (by kernel_rfl) ?_
            repeat' (refine wpX_stepQ (fun K hK => ?_)
                     go_simp
                     try (rw [if_neg (by intro h; simp [undef] at h)])
                     try split
                     all_goals
                       first
                       | (refine hK _ ?_
                          clear hK K)
                       | (apply Exists.intro
                          refine ⟨fun wq hwq => ?_, hK _ ?_⟩
                          · have hcq := hwq.cellS
                            go_simp
                            first
                            | exact ⟨Ext.refl _, rfl⟩
                            | exact ⟨Ext.refl _, HC.out _ (by repeat (first | exact Ext.refl _ | assumption | refine Ext.alloc ?_ _ | refine Ext.drew ?_ | refine Ext.trans ?_ (by assumption)))⟩
                          clear hK K))
            refine wpX_nil (fun wz hwz => ?_)
            go_wp2
            have hBz := HB.out.ext hwz
            have hOz : Only g w wz := hw.trans (Only.of_ext hwz)
            have b0 := hBz.cell (m + 1) i5
            have b1 := hBz.cell m i4
            have g0 := hBz.fr (m + 1)
            have g1 := hBz.fr m
            have HZ := hide hBz
            rw [memF_at (A1.out), rowV] at b0
            rw [memF_at (A2.out), rowV] at b1
            obtain ⟨wp, hwp⟩ : ∃ wp : World, wp = wz := ⟨_, rfl⟩
            subst hwp
            clear hwz d0 d1 z0 z1 HC HB hBz hw
            refine wp_region_L (H := g) (late := [4]) (by kernel_rfl) (by kernel_rfl) ?_
            repeat' (refine wpL_stepQ rfl (fun K hK => ?_)
                     go_simp
                     try (rw [if_neg (by intro h; simp [undef] at h)])
                     try split
                     all_goals
                       first
                       | (refine hK _ ?_
                          clear hK K)
                       | (apply Exists.intro
                          refine ⟨fun wq hwq => ?_, hK _ ?_⟩
                          · have hcq := hwq.cellS
                            go_simp
                            first
                            | exact ⟨Ext.refl _, rfl⟩
                          clear hK K))
            refine wpL_stepQL (.int .i64 (m : Int)) rfl (fun wq hwq => ?_) (fun K hK0 => ?_)
            · go_simp
              exact ⟨Ext.refl _, rfl⟩
            refine hK0 _ ?_
            clear hK0 K
            repeat' (refine wpL_stepQ rfl (fun K hK => ?_)
                     go_simp
                     try (rw [if_neg (by intro h; simp [undef] at h)])
                     try split
                     all_goals
                       first
                       | (refine hK _ ?_
                          clear hK K)
                       | (apply Exists.intro
                          refine ⟨fun wq hwq => ?_, hK _ ?_⟩
                          · have hcq := hwq.cellS
                            go_simp
                            first
                            | exact ⟨Ext.refl _, rfl⟩
                          clear hK K))
            refine wpL_stepC rfl (by kernel_rfl) (fun K hK' wa hwa => ?_)
            have hca := hwa.cellS
            have hfa := hwa.frozenS
            go_simp
            refine ⟨Low.set (H := g) _ (p := ⟨g, m + 1, none⟩) (Nat.le_refl g) _, hK' _ _ ?_⟩
            clear hK' K hca hfa
            have hB1 := (HZ.out.ext hwa).set (m + 1) i5 (.slice y.a y.n y.c)
            have hO1 : Only g w (wa.setCell ⟨g, m + 1, none⟩ (.slice y.a y.n y.c)) := (hOz.trans (Only.of_ext hwa)).setCell _ _
            generalize wa.setCell ⟨g, m + 1, none⟩ (.slice y.a y.n y.c) = w5 at hB1 hO1 ⊢
            have b2 := hB1.cell m i4
            rw [if_neg (by omega), memF_at A2.out, rowV] at b2
            have g2 := hB1.fr m
            have HB1 := hide hB1
            clear hB1 HZ b0 b1 g0 g1 hOz
            repeat' (refine wpL_stepQ rfl (fun K hK => ?_)
                     go_simp
                     try (rw [if_neg (by intro h; simp [undef] at h)])
                     try split
                     all_goals
                       first
                       | (refine hK _ ?_
                          clear hK K)
                       | (apply Exists.intro
                          refine ⟨fun wq hwq => ?_, hK _ ?_⟩
                          · have hcq := hwq.cellS
                            go_simp
                            first
                            | exact ⟨Ext.refl _, rfl⟩
                          clear hK K))
            refine wpL_stepL rfl (by kernel_rfl) (by kernel_rfl) (by kernel_rfl) (fun K hK wz hwz => ?_)
            have hcz := hwz.cellS
            have hfz := hwz.frozenS
            go_simp
            refine hK _ _ ?_
            clear hK K
            go_wp2
            refine ⟨⟨m, by omega, by go_num, ((HB1.out.ext hwz).set m i4 (.slice x.a x.n x.c)).congr (fun o _ => lay_swap (val := rowV) HY.out (by have := HSL.out; omega) o), fun z hz => ?_, (hO1.trans (Only.of_ext hwz)).setCell _ _⟩, by simp [intOf]⟩
            rw [List.drop_eq_getElem_cons (lt_of_at HY.out)] at hz
            rcases List.mem_cons.1 hz with hz | hz
            · have hy := HY.out
              rw [List.getElem?_eq_getElem (lt_of_at hy)] at hy
              injection hy with hy
              rw [hz, hy]; exact hlt
            · exact hlow.out z hz
          · have t1 : ¬ d x y < 0 := fun h => hlt ((HD.out x y).1 h)
            have H2 := hide (H1.out (m + 1) (insD_stop HSD.out (.inr ⟨y, HY.out, by omega⟩) hlow.out))
            go_wp2
            refine wp_region_X (by kernel_rfl) (by kernel_rfl) ?_
            repeat' (refine wpX_stepQ (fun K hK => ?_)
                     go_simp
                     try (rw [if_neg (by intro h; simp [undef] at h)])
                     try split
                     all_goals
                       first
                       | (refine hK _ ?_
                          clear hK K)
                       | (apply Exists.intro
                          refine ⟨fun wq hwq => ?_, hK _ ?_⟩
                          · have hcq := hwq.cellS
                            go_simp
                            first
                            | exact ⟨Ext.refl _, rfl⟩
                            | exact ⟨Ext.refl _, HC.out _ (by repeat (first | exact Ext.refl _ | assumption | refine Ext.alloc ?_ _ | refine Ext.drew ?_ | refine Ext.trans ?_ (by assumption)))⟩
                          clear hK K))
            refine wpX_nil (fun wz hwz => ?_)
            go_wp2
            exact ⟨⟨i + 1, by omega, by omega, by go_num, by rw [H2.out]; exact HB.out.ext hwz, hw.trans (Only.of_ext hwz)⟩, by simp [intOf]; omega⟩
    · have hin : i = n ∨ (i = 1 ∧ n = 0) := by omega
      go_wp2
      go_end0
      rw [List.take_of_length_le (by have := HN.out; omega), List.drop_of_length_le (by have := HN.out; omega), List.append_nil] at hB
      exact ⟨rfl, hB, hw⟩

/-- All rows are the call's own, no two of them in one block. -/
def EntE (w : World) (B : Nat) (es : List RowE) : Prop := (∀ e ∈ es, OwnI w B (rowV e) e.xs) ∧ es.Pairwise (fun e e' => ∀ k, (rowV e).ownBlock = some k → (rowV e').ownBlock ≠ some k)
/-- The outer list holds the entries. -/
def RowsE (w : World) (B : Nat) (v : Value) (es : List RowE) : Prop := w.ownsRow B 36 1 v es.length (es.map rowV)
set_option maxRecDepth 100000 in
theorem EntE.nil (w : World) (B : Nat) : EntE w B [] := ⟨fun _ h => by simp at h, List.Pairwise.nil⟩
set_option maxRecDepth 100000 in
theorem EntE.ext {w w' : World} {B : Nat} {es : List RowE} (h : EntE w B es) (hw : Ext w w') : EntE w' B es := ⟨fun e he => (h.1 e he).ext hw, h.2⟩
set_option maxRecDepth 100000 in
theorem EntE.base {w : World} {B B' : Nat} {es : List RowE} (h : EntE w B es) (hb : B' ≤ B) : EntE w B' es := ⟨fun e he => (h.1 e he).base hb, h.2⟩
set_option maxRecDepth 100000 in
theorem EntE.only {w w' : World} {B g : Nat} {es : List RowE} (h : EntE w B es) (hw : Only g w w') (hg : ∀ e ∈ es, (rowV e).ownBlock ≠ some g) : EntE w' B es :=
  ⟨fun e he => (h.1 e he).keepRow hw (.inr (hg e he)), h.2⟩
set_option maxRecDepth 100000 in
theorem EntE.grown {w w' : World} {B : Nat} {es : List RowE} {row : Option Nat} (h : EntE w B es) (hw : w.grownBy w' row) (hg : ∀ e ∈ es, (rowV e).ownBlock = none ∨ (rowV e).ownBlock ≠ row) : EntE w' B es :=
  ⟨fun e he => (h.1 e he).keepRow hw (hg e he), h.2⟩
set_option maxRecDepth 100000 in
theorem dis_symm : ∀ {x y : RowE}, (∀ k, (rowV x).ownBlock = some k → (rowV y).ownBlock ≠ some k) → ∀ k, (rowV y).ownBlock = some k → (rowV x).ownBlock ≠ some k := fun h k hk he => h k he hk
set_option maxRecDepth 100000 in
theorem EntE.perm {w : World} {B : Nat} {es es' : List RowE} (h : EntE w B es) (hp : es'.Perm es) : EntE w B es' :=
  ⟨fun e he => h.1 e (hp.mem_iff.1 he), (hp.symm.pairwise_iff dis_symm).1 h.2⟩
set_option maxRecDepth 100000 in
theorem EntE.sub {w : World} {B : Nat} {es es' : List RowE} (h : EntE w B es) (hs : es'.Sublist es) : EntE w B es' :=
  ⟨fun e he => h.1 e (hs.subset he), h.2.sublist hs⟩
set_option maxRecDepth 100000 in
theorem EntE.lt {w : World} {B : Nat} {es : List RowE} (h : EntE w B es) : ∀ e ∈ es, ∀ k, (rowV e).ownBlock = some k → B ≤ k ∧ k < w.heap.size := fun e he k hk => World.ownsRow.lt (h.1 e he) k hk
set_option maxRecDepth 100000 in
theorem EntE.rd {w : World} {B : Nat} {es : List RowE} (h : EntE w B es) {e : RowE} (he : e ∈ es) : RdI w e.a e.xs ∧ e.n = e.xs.length := by
  obtain ⟨a, c, hv, _, _, hR, _⟩ := (h.1 e he).val
  unfold rowV at hv
  injection hv with h1 h2 h3
  rw [h1]
  exact ⟨hR, h2⟩
set_option maxRecDepth 100000 in
theorem EntE.add {w : World} {B : Nat} {es : List RowE} {e : RowE} (h : EntE w B es) (he : OwnI w B (rowV e) e.xs) (hf : ∀ e' ∈ es, ∀ k, (rowV e').ownBlock = some k → (rowV e).ownBlock ≠ some k) : EntE w B (es ++ [e]) := by
  refine ⟨fun x hx => ?_, ?_⟩
  · rcases List.mem_append.1 hx with hx | hx
    · exact h.1 x hx
    · simp at hx; subst hx; exact he
  · rw [List.pairwise_append]
    refine ⟨h.2, by simp, fun x hx y hy => ?_⟩
    simp at hy; subst hy
    exact hf x hx
set_option maxRecDepth 100000 in
theorem RowsE.ext {w w' : World} {B : Nat} {v : Value} {es : List RowE} (h : RowsE w B v es) (hw : Ext w w') : RowsE w' B v es := ownsRow_ext h hw
set_option maxRecDepth 100000 in
theorem RowsE.base {w : World} {B B' : Nat} {v : Value} {es : List RowE} (h : RowsE w B v es) (hb : B' ≤ B) : RowsE w B' v es := ownsRow_base h hb
set_option maxRecDepth 100000 in
theorem RowsE.nil (w : World) (B : Nat) : RowsE w B (.slice none 0 0) [] := World.ownsRow_nil _ _ _ _
set_option maxRecDepth 100000 in
theorem RowsE.made0 (w : World) : RowsE (w.alloc (.cells #[] 36)) w.heap.size (.slice (some ⟨w.heap.size, 0, none⟩) 0 0) [] :=
  ⟨rfl, .inr ⟨w.heap.size, 0, #[], rfl, Nat.le_refl _, heap_alloc_new _ _, Nat.le_refl _, by simp, rfl, rfl⟩⟩
set_option maxRecDepth 100000 in
/-- A row is never the outer list. -/
theorem rows_ne {w : World} {B B' : Nat} {v : Value} {es fs : List RowE} (h : RowsE w B v es) (hf : EntE w B' fs) : ∀ e ∈ fs, (rowV e).ownBlock = none ∨ (rowV e).ownBlock ≠ v.ownBlock := fun e he => own_ne' (hf.1 e he) h
set_option maxRecDepth 100000 in
theorem RowsE.own {w : World} {B : Nat} {v : Value} {es : List RowE} (h : RowsE w B v es) (he : EntE w B es) : OwnSS w B v (es.map RowE.xs) := by
  refine ⟨es.map rowV, by rw [List.length_map]; exact h, by simp, fun j xs hx => ?_, fun i j u u' k hne hu hu' hk => ?_⟩
  · rw [List.getElem?_map, Option.map_eq_some_iff] at hx
    obtain ⟨e, hx, rfl⟩ := hx
    exact ⟨rowV e, by rw [List.getElem?_map, hx]; rfl, he.1 e (List.mem_of_getElem? hx)⟩
  · rw [List.getElem?_map, Option.map_eq_some_iff] at hu hu'
    obtain ⟨e, h1, rfl⟩ := hu
    obtain ⟨e', h2, rfl⟩ := hu'
    have l1 := lt_of_at h1
    have l2 := lt_of_at h2
    rw [List.getElem?_eq_getElem l1] at h1
    rw [List.getElem?_eq_getElem l2] at h2
    injection h1 with h1
    injection h2 with h2
    rcases Nat.lt_or_ge i j with hlt | hge
    · have := List.pairwise_iff_getElem.1 he.2 i j l1 l2 hlt
      rw [h1, h2] at this
      exact this k hk
    · have := List.pairwise_iff_getElem.1 he.2 j i l2 l1 (by omega)
      rw [h1, h2] at this
      exact dis_symm this k hk
set_option maxRecDepth 100000 in
/-- The outer list as a value. -/
theorem RowsE.val {w : World} {B : Nat} {v : Value} {es : List RowE} (h : RowsE w B v es) : ∃ a c, v = .slice a es.length c ∧ es.length ≤ c ∧ c ≤ maxLen ∧ (es ≠ [] → ∃ g, a = some ⟨g, 0, none⟩ ∧ B ≤ g ∧ BlkF w g es.length (memF rowV es)) := by
  have h0 := h
  obtain ⟨_, h2⟩ := h
  rcases h2 with ⟨rfl, h2⟩ | ⟨g, cap, cur, rfl, hg, hh, hc, hm, hs, ht⟩
  · have : es = [] := List.length_eq_zero_iff.1 h2
    subst this
    exact ⟨none, 0, rfl, Nat.le_refl _, by simp, fun h => absurd rfl h⟩
  · have hl : g < w.heap.size := (World.ownsRow.lt h0 g rfl).2
    refine ⟨some ⟨g, 0, none⟩, cap, rfl, hc, hm, fun _ => ⟨g, rfl, hg, hl, fun o => World.ownsRow.frozenAt h0 o, fun o ho => ?_⟩⟩
    rw [World.ownsRow.cellAt h0 o (by omega)]
    obtain ⟨e, he⟩ := at_of_lt ho
    rw [List.getElem?_map, he, memF_at he]; rfl
set_option maxRecDepth 100000 in
theorem RowsE.at_ {w : World} {B : Nat} {a : Option Addr} {n c : Nat} {es : List RowE} (h : RowsE w B (.slice a n c) es) {k : Nat} {e : RowE} (he : es[k]? = some e) : ∃ g, a = some ⟨g, 0, none⟩ ∧ w.cell? ⟨g, k, none⟩ = some (.slice e.a e.n e.c) := by
  obtain ⟨a', c', hv, _, _, ho⟩ := h.val
  injection hv with h1 h2 h3
  obtain ⟨g, hg, _, hb⟩ := ho (ne_of_at he)
  refine ⟨g, by rw [h1, hg], ?_⟩
  rw [hb.cell k (lt_of_at he), memF_at he]; rfl

/-- A part of a list of rows that is read. -/
def RdE (w : World) (a : Option Addr) (es : List RowE) : Prop := es ≠ [] → ∃ b off, a = some ⟨b, off, none⟩ ∧ ∀ (j : Nat) (e : RowE), es[j]? = some e → w.cell? ⟨b, off + j, none⟩ = some (rowV e)
set_option maxRecDepth 100000 in
theorem RdE.nil (w : World) (a : Option Addr) : RdE w a [] := fun h => absurd rfl h
set_option maxRecDepth 100000 in
theorem RdE.ext {w w' : World} {a : Option Addr} {es : List RowE} (h : RdE w a es) (hw : Ext w w') : RdE w' a es := fun hne => by
  obtain ⟨b, off, ha, hj⟩ := h hne
  exact ⟨b, off, ha, fun j e he => hw.keep (hj j e he)⟩
set_option maxRecDepth 100000 in
theorem RowsE.rdE {w : World} {B : Nat} {a : Option Addr} {n c : Nat} {es : List RowE} (h : RowsE w B (.slice a n c) es) : RdE w a es := fun hne => by
  obtain ⟨a', c', hv, _, _, ho⟩ := h.val
  injection hv with h1 h2 h3
  obtain ⟨g, hg, _, hb⟩ := ho hne
  refine ⟨g, 0, by rw [h1, hg], fun j e he => ?_⟩
  rw [Nat.zero_add, hb.cell j (lt_of_at he), memF_at he]
set_option maxRecDepth 100000 in
theorem RdE.take {w : World} {a : Option Addr} {es : List RowE} (h : RdE w a es) (k : Nat) : RdE w a (es.take k) := fun hne => by
  obtain ⟨b, off, ha, hj⟩ := h (fun e => hne (by rw [e]; simp))
  refine ⟨b, off, ha, fun j e he => ?_⟩
  rw [List.getElem?_take] at he
  split at he
  · exact hj j e he
  · cases he
set_option maxRecDepth 100000 in
theorem RdE.drop {w : World} {b off n : Nat} {es : List RowE} (h : RdE w (some ⟨b, off, none⟩) es) (k c : Nat) (hc : es.length ≤ c) (hn : n = off + k) : RdE w (if c = k then some ⟨b, off, none⟩ else some ⟨b, n, none⟩) (es.drop k) := fun hne => by
  have hk : k < es.length := by
    rcases Nat.lt_or_ge k es.length with h | h
    · exact h
    · exact absurd (List.drop_eq_nil_of_le h) hne
  obtain ⟨b', off', e, hc'⟩ := h (fun e => by rw [e] at hk; simp at hk)
  injection e with e
  injection e with e1 e2
  subst e1 e2
  rw [if_neg (by omega)]
  subst hn
  refine ⟨b, off + k, rfl, fun j x hx => ?_⟩
  rw [List.getElem?_drop] at hx
  rw [Nat.add_assoc]
  exact hc' (k + j) x hx

set_option maxRecDepth 100000 in
theorem wpList_appE {ops : Array Oper} {rest : List Oper} {o : Oper} {a : Act} {Q : Exit → Act → World → Prop} (B : Nat) (w3 : World) (hgd : o.guard = none) (s x : Operand)
    (ho : o.op = .call { callee := .builtin .append, args := #[s, x], argTypes := #[93, 93] }) (v : Value) (es ys : List RowE) (hs : a.eval s = v) (hown : RowsE w3 B v es) (hB : B ≤ w3.heap.size)
    (ax : Option Addr) (n c : Nat) (hn : n = ys.length) (hx : a.eval x = .slice ax n c) (hR : RdE w3 ax ys) (hlen : es.length + ys.length ≤ 2000000)
    (h : ∀ v' w', RowsE w' B v' (es ++ ys) → w3.grownBy w' v.ownBlock → Fresh w3 v v' → wpList Tryz.prog ops Q rest (a.put o.dst v') w') : wpList Tryz.prog ops Q (o :: rest) a w3 := by
  obtain ⟨i0, hi, hz0, hz1, hz2⟩ := info_parts info_row
  subst hn
  obtain ⟨v', w', hr, h1, h2, h3⟩ := run_append_any (P := Tryz.prog) w3 B 93 o.type 36 i0 (.slice none 0 0) 1 24 Tryz.underlying93 hi hz0 hz1 hz2 rfl (by decide) v es.length _ hown ax ys.length c (ys.map rowV) (by simp)
    (fun hne => by
      obtain ⟨b, off, rfl, hc⟩ := hR (fun e => hne (by rw [e]; rfl))
      refine ⟨_, rfl, fun j u hj => ?_⟩
      rw [List.getElem?_map, Option.map_eq_some_iff] at hj
      obtain ⟨y, hy, rfl⟩ := hj
      have := hc j y hy
      by_cases hj0 : j = 0
      · subst hj0
        simpa [Addr.add] using this
      · simpa [Addr.add, hj0] using this)
    (fun u hu => by
      obtain ⟨y, _, rfl⟩ := List.mem_map.1 hu
      rfl) (by unfold maxLen; omega) (by omega) hB
  refine wpList_plain hgd fun K hK => ?_
  unfold Oper.wp execOp
  simp only [ho, resolve, invoke, builtin, Sem.run_bind, Sem.run_pure, Result.andThen_ok, List.map_toArray, List.map_cons, List.map_nil, hs, hx, hr]
  refine hK _ _ (h v' w' ?_ h2 h3)
  unfold RowsE
  rw [List.map_append, List.length_append]
  exact h1
set_option maxRecDepth 100000 in
/-- A freshly laid box with one row. -/
theorem RdE.box (w : World) (e : RowE) : RdE (w.alloc (.cells #[rowV e] 36)) (some ⟨w.heap.size, 0, none⟩) [e] := fun _ => by
  refine ⟨_, 0, rfl, fun j x hx => ?_⟩
  have : j = 0 := by
    have h2 := lt_of_at hx
    rw [List.length_singleton] at h2; omega
  subst this
  simp at hx
  subst hx
  exact new0 w (rowV e) [] 36
set_option maxRecDepth 100000 in
/-- A pair that has just been laid. -/
theorem OwnI.lit2 (w : World) (x y : Int) : OwnI (w.alloc (.cells #[.int .i64 x, .int .i64 y] 3)) w.heap.size (.slice (some ⟨w.heap.size, 0, none⟩) 2 2) [x, y] :=
  ⟨rfl, .inr ⟨w.heap.size, 2, #[.int .i64 x, .int .i64 y], rfl, Nat.le_refl _, heap_alloc_new _ _, Nat.le_refl _, by simp [maxLen], rfl, rfl⟩⟩
set_option maxRecDepth 100000 in
theorem RdI.two {w : World} {a : Option Addr} {x y : Int} (h : RdI w a [x, y]) : ∃ b off, a = some ⟨b, off, none⟩ ∧ w.cell? ⟨b, off, none⟩ = some (.int .i64 x) ∧ w.cell? ⟨b, off + 1, none⟩ = some (.int .i64 y) := by
  obtain ⟨b, off, ha, hc⟩ := h (by simp)
  exact ⟨b, off, ha, by simpa using hc 0 x rfl, hc 1 y rfl⟩
/-- A list of rows of the call's own, of which each one is known. -/
def LstE (w : World) (B : Nat) (v : Value) (es : List RowE) : Prop := RowsE w B v es ∧ EntE w B es
set_option maxRecDepth 100000 in
theorem LstE.ext {w w' : World} {B : Nat} {v : Value} {es : List RowE} (h : LstE w B v es) (hw : Ext w w') : LstE w' B v es := ⟨h.1.ext hw, h.2.ext hw⟩
set_option maxRecDepth 100000 in
theorem LstE.base {w : World} {B B' : Nat} {v : Value} {es : List RowE} (h : LstE w B v es) (hb : B' ≤ B) : LstE w B' v es := ⟨h.1.base hb, h.2.base hb⟩
set_option maxRecDepth 100000 in
theorem LstE.made0 (w : World) : LstE (w.alloc (.cells #[] 36)) w.heap.size (.slice (some ⟨w.heap.size, 0, none⟩) 0 0) [] := ⟨RowsE.made0 w, EntE.nil _ _⟩
set_option maxRecDepth 100000 in
theorem LstE.nil (w : World) (B : Nat) : LstE w B (.slice none 0 0) [] := ⟨RowsE.nil _ _, EntE.nil _ _⟩
set_option maxRecDepth 100000 in
/-- One new row appended. -/
theorem wpList_pushE {ops : Array Oper} {rest : List Oper} {o : Oper} {a : Act} {Q : Exit → Act → World → Prop} (W0 w0 w3 : World) (hgd : o.guard = none) (s x : Operand)
    (ho : o.op = .call { callee := .builtin .append, args := #[s, x], argTypes := #[93, 93] }) (v : Value) (es : List RowE) (e : RowE) (hs : a.eval s = v)
    (hown : LstE w0 W0.heap.size v es) (hW0 : Ext W0 w0) (hw : Ext w0 w3) (hu : OwnI w3 w0.heap.size (rowV e) e.xs)
    (gx : Nat) (hgx : gx = w3.heap.size) (hx : a.eval x = .slice (some ⟨gx, 0, none⟩) 1 1) (hlen : es.length ≤ 1000000)
    (h : ∀ v' w', LstE w' W0.heap.size v' (es ++ [e]) → Ext W0 w' → wpList Tryz.prog ops Q rest (a.put o.dst v') w') : wpList Tryz.prog ops Q (o :: rest) a (w3.alloc (.cells #[rowV e] 36)) := by
  subst hgx
  have hE := hw.alloc (.cells #[rowV e] 36)
  have h1 := hown.1.ext hE
  have h2 := hown.2.ext hE
  refine wpList_appE W0.heap.size _ hgd s x ho v es [e] hs h1 (hW0.trans hE).size _ _ _ (by simp) hx (RdE.box w3 e) (by simp; omega) ?_
  intro v' w' h3 h4 _
  have hu' := hu.ext (Ext.new w3 (.cells #[rowV e] 36))
  refine h v' w' ⟨h3, (h2.grown h4 (rows_ne h1 h2)).add ((hu'.keepRow h4 (own_ne' hu' h1)).base hW0.size) (fun e' he k hk hk2 => ?_)⟩ ((hW0.trans hE).grown h4 (ownsRow_block h1))
  have a1 := (hown.2.lt e' he k hk).2
  have a2 := (World.ownsRow.lt hu k hk2).1
  omega
set_option maxRecDepth 100000 in
/-- The outer list: nothing, or a block. -/
theorem RowsE.two {w : World} {B : Nat} {v : Value} {es : List RowE} (h : RowsE w B v es) : (v = .slice none 0 0 ∧ es = []) ∨ ∃ g c, v = .slice (some ⟨g, 0, none⟩) es.length c ∧ es.length ≤ c ∧ B ≤ g ∧ BlkF w g es.length (memF rowV es) := by
  have h0 := h
  obtain ⟨_, h2⟩ := h
  rcases h2 with ⟨rfl, h2⟩ | ⟨g, cap, cur, rfl, hg, hh, hc, hm, hs, ht⟩
  · exact .inl ⟨rfl, List.length_eq_zero_iff.1 h2⟩
  · have hl : g < w.heap.size := (World.ownsRow.lt h0 g rfl).2
    refine .inr ⟨g, cap, rfl, hc, hg, hl, fun o => World.ownsRow.frozenAt h0 o, fun o ho => ?_⟩
    rw [World.ownsRow.cellAt h0 o (by omega)]
    obtain ⟨e, he⟩ := at_of_lt ho
    rw [List.getElem?_map, he, memF_at he]; rfl
set_option maxRecDepth 100000 in
/-- One row appended, wherever it comes from. -/
theorem wpList_oneE {ops : Array Oper} {rest : List Oper} {o : Oper} {a : Act} {Q : Exit → Act → World → Prop} (B : Nat) (w3 : World) (hgd : o.guard = none) (s x : Operand)
    (ho : o.op = .call { callee := .builtin .append, args := #[s, x], argTypes := #[93, 93] }) (v : Value) (es : List RowE) (e : RowE) (hs : a.eval s = v) (hown : RowsE w3 B v es) (hB : B ≤ w3.heap.size)
    (gx : Nat) (hgx : gx = w3.heap.size) (hx : a.eval x = .slice (some ⟨gx, 0, none⟩) 1 1) (hlen : es.length ≤ 1000000)
    (h : ∀ v' w', RowsE w' B v' (es ++ [e]) → w3.grownBy w' v.ownBlock → wpList Tryz.prog ops Q rest (a.put o.dst v') w') : wpList Tryz.prog ops Q (o :: rest) a (w3.alloc (.cells #[rowV e] 36)) := by
  subst hgx
  refine wpList_appE B _ hgd s x ho v es [e] hs (hown.ext (Ext.new _ _)) (by simp; omega) _ _ _ (by simp) hx (RdE.box w3 e) (by simp; omega) ?_
  intro v' w' h3 h4 _
  exact h v' w' h3 ⟨h4.os, h4.tape, h4.output, Nat.le_trans (by simp) h4.size, fun k hk hne => (h4.block k (by simp; omega) hne).trans (Below.block (Ext.new w3 (.cells #[rowV e] 36)) k hk)⟩
set_option maxRecDepth 100000 in
/-- A new pair laid between the others. -/
theorem ent_ins {w1 w2 w3 wz : World} {B : Nat} (m : Nat) {es es1 es2 : List RowE} {x y : Int} {v1 v2 : Value} (hB : B ≤ wz.heap.size) (hent : EntE wz B es) (hE3 : Ext wz w3) (h1 : Ext wz w1)
    (hO1 : RowsE w1 wz.heap.size v1 es1) (hg2 : (w1.alloc (.cells #[.int .i64 x, .int .i64 y] 3)).grownBy w2 v1.ownBlock) (hO2 : RowsE w2 wz.heap.size v2 es2) (hg3 : w2.grownBy w3 v2.ownBlock) :
    EntE w3 B (es.take m ++ [⟨some ⟨w1.heap.size, 0, none⟩, 2, 2, [x, y]⟩] ++ es.drop m) := by
  have a0 := OwnI.lit2 w1 x y
  have a1 : OwnI w2 w1.heap.size (.slice (some ⟨w1.heap.size, 0, none⟩) 2 2) [x, y] := a0.keepRow hg2 (own_ne' a0 (hO1.ext (Ext.new _ _)))
  have a2 : OwnI w3 w1.heap.size (.slice (some ⟨w1.heap.size, 0, none⟩) 2 2) [x, y] := a1.keepRow hg3 (own_ne' a1 hO2)
  have b := (hent.ext hE3).add (e := ⟨some ⟨w1.heap.size, 0, none⟩, 2, 2, [x, y]⟩) (a2.base (Nat.le_trans hB h1.size)) (fun e' he k hk hk2 => by
    have c1 := (hent.lt e' he k hk).2
    have c2 := (World.ownsRow.lt a2 k hk2).1
    have c3 := h1.size
    omega)
  refine b.perm ?_
  have hp : (es.take m ++ (⟨some ⟨w1.heap.size, 0, none⟩, 2, 2, [x, y]⟩ : RowE) :: es.drop m).Perm ((⟨some ⟨w1.heap.size, 0, none⟩, 2, 2, [x, y]⟩ : RowE) :: (es.take m ++ es.drop m)) := List.perm_middle
  rw [List.take_append_drop] at hp
  rw [List.append_assoc, List.singleton_append]
  exact hp.trans (List.perm_append_singleton _ _).symm

end Go.Proofs.YtilcdnkkabmbfaaGreat
