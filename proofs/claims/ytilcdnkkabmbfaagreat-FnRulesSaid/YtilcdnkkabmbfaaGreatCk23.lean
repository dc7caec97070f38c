/- The first ranking with the least score by swaps, of the spec. -/
import Derived.Test.YtilcdnkkabmbfaaGreatCk22
namespace Go.Proofs.YtilcdnkkabmbfaaGreat
open Go.RowKit

set_option maxRecDepth 100000 in
set_option maxHeartbeats 4000000 in
theorem swap_spec (w : World) (a a2 : Option Addr) (c c2 n : Nat) (xs r : List Int) (hxn : xs.length = n) (n5 : n ≤ 5) (hR : RdI w a xs) (hc : n ≤ c) (hR2 : RdI w a2 r) (hrl : r.length ≤ 5) :
    Calls Tryz.prog 223 #[.slice a n c, .slice a2 r.length c2] w fun e w' => e = .returned (.int .i64 (swapN xs r : Nat)) ∧ Ext w w' := by
  have HXN := hide hxn
  obtain ⟨q, hq⟩ : ∃ q : Int → Int → Bool, q = fun y x => prefB r y x := ⟨_, rfl⟩
  have HQ : Hid (swapN xs r = bkS q xs n) := hide (by rw [← hxn, hq, bkS_all]; rfl)
  have HP : Hid (∀ (x y : Int) (w' : World), Ext w w' → Calls Tryz.prog 71 #[.slice a2 r.length c2, .int .i64 x, .int .i64 y] w' fun e w'' => e = .returned (.bool (q x y)) ∧ Ext w' w'') := fun x y w' hw' => by
    rw [hq]
    exact pref_spec w' a2 c2 r x y (hR2.ext hw') (by omega)
  clear hq hxn hR2
  go_enter Tryz.func223, Tryz.ntmps223
  go_wp2_with fail
  go_loopw [5, 6, 7, 9, 12, 19, 20, 21] (fun s _ _ _ i _ _ _ wr => ∃ j : Nat, j ≤ n ∧ i = .int .i64 j ∧ s = .int .i64 (bkS q xs j : Nat) ∧ Ext w wr) (fun _ _ _ _ i _ _ _ _ => n - (intOf i).toNat)
  case atStart => exact ⟨0, Nat.zero_le _, rfl, rfl, Ext.refl _⟩
  case round =>
    obtain ⟨j, hj, rfl, rfl, hwr⟩ := hrel
    have hbs := bkS_le (q := q) (r := xs) (by rw [HXN.out]; exact n5) j (by rw [HXN.out]; exact hj)
    by_cases hjt : j < n
    · obtain ⟨x, hx⟩ := at_of_lt (xs := xs) (k := j) (by rw [HXN.out]; exact hjt)
      obtain ⟨b, off, rfl, c0⟩ := (hR.ext hwr).at_ hx
      have HSU := hide (bkS_succ (q := q) hx)
      have i2 : j ≤ c := by omega
      have i3 : (j : Int) ≤ (c : Int) := by omega
      clear hx
      obtain ⟨wo, hwo⟩ : ∃ wo : World, wo = wr := ⟨_, rfl⟩
      subst hwo
      go_wp2_with fail
      go_loopw [5, 9, 21] (fun s _ p wr => ∃ m : Nat, m ≤ j ∧ p = .int .i64 m ∧ s = .int .i64 ((bkS q xs j : Int) + ((xs.take m).countP (fun y => q x y) : Int)) ∧ Ext wo wr) (fun _ _ p _ => j - (intOf p).toNat)
      case atStart => exact ⟨0, Nat.zero_le _, rfl, by simp, Ext.refl _⟩
      case round =>
        obtain ⟨m, hm, rfl, rfl, hwr2⟩ := hrel
        have hcm := List.countP_le_length (p := fun y => q x y) (l := xs.take m)
        rw [List.length_take] at hcm
        have hm2 : (xs.take m).countP (fun y => q x y) ≤ 5 := by omega
        clear hcm
        by_cases hmt : m < j
        · obtain ⟨y, hy⟩ := at_of_lt (xs := xs) (k := m) (by rw [HXN.out]; omega)
          obtain ⟨b2, off2, hb2, c1⟩ := (hR.ext (hwr.trans hwr2)).at_ hy
          injection hb2 with hb2
          injection hb2 with hb2 hb3
          subst hb2
          subst hb3
          have HN := hide (countP_at (p := fun y => q x y) hy)
          have y3 : wrap64 ((bkS q xs j : Int) + ((xs.take m).countP (fun y => q x y) : Int) + 1) = (bkS q xs j : Int) + ((xs.take m).countP (fun y => q x y) : Int) + 1 := IntWalk.wrap64_in _ (by omega)
          have HC := hide (HP.out x y wr (hwr.trans hwr2))
          clear hy
          cases hqv : q x y
          all_goals
            rw [hqv] at HC HN
            go_wp2_with fail
            all_goals refine HC.out.mono ?_
            all_goals rintro e w1 ⟨rfl, hw1⟩
            all_goals go_wp2
            all_goals refine ⟨⟨m + 1, by omega, by go_num, ?_, hwr2.trans hw1⟩, by simp [intOf]; omega⟩
            all_goals rw [HN.out]
            all_goals simp
            all_goals omega
        · have hmj : m = j := by omega
          subst hmj
          go_wp2
          exact ⟨⟨m + 1, by omega, by go_num, by rw [HSU.out, Int.natCast_add], hwr.trans hwr2⟩, by simp [intOf]; omega⟩
    · have hjn : j = n := by omega
      go_wp2
      go_ret
      exact ⟨ret_int (by rw [HQ.out, hjn]), hwr⟩

set_option maxRecDepth 100000 in
set_option maxHeartbeats 4000000 in
theorem kemS_spec (w : World) (n : Nat) (a ar : Option Addr) (c cr : Nat) (vs : List Vt) (r : List Int) (hR : RdV w a vs) (hRr : RdI w ar r) (h0 : profOk n vs = true) (hr : rkOk n r = true) :
    Calls Tryz.prog 217 #[.agg #[.int .i64 n, .slice a vs.length c], .slice ar r.length cr] w fun e w' => e = .returned (.int .i64 (kemV vs r)) ∧ Ext w w' := by
  have q0 := new0 w (.int .i64 n) [.slice a vs.length c] 29
  have q1 := new1 w (.int .i64 n) (.slice a vs.length c) [] 29
  have hw := Ext.new w (.cells #[.int .i64 n, .slice a vs.length c] 29)
  have HS := hide (prof_small h0)
  have n2 : n ≤ 5 := by have := prof_size h0; omega
  have hr5 := (rk_len hr).2
  clear hr
  go_enter Tryz.func217, Tryz.ntmps217
  go_wp2_with fail
  generalize w.alloc (.cells #[.int .i64 n, .slice a vs.length c] 29) = wb at hw q0 q1 ⊢
  have hvl := HS.out.1
  go_loopw [5, 7, 11] (fun s _ i wr => ∃ k : Nat, k ≤ vs.length ∧ i = .int .i64 k ∧ s = .int .i64 (kemV (vs.take k) r) ∧ Ext wb wr) (fun _ _ i _ => vs.length - (intOf i).toNat)
  case atStart => exact ⟨0, Nat.zero_le _, rfl, rfl, Ext.refl _⟩
  case round =>
    obtain ⟨k, hk, rfl, rfl, hwr⟩ := hrel
    have hbd := kemV_bd (r := r) HS.out k hk
    by_cases hkt : k < vs.length
    · obtain ⟨x, hx⟩ := at_of_lt hkt
      obtain ⟨b, off, a', c', rfl, c0, c1, hc', hRx⟩ := (hR.ext (hw.trans hwr)).at_ hx
      have hxs := HS.out.2 x (List.mem_of_getElem? hx)
      have hxl : x.1.length = n := by have := (rk_len hxs.1).1; omega
      have hsb := swapN_bd (r := r) (rk_len hxs.1).2
      have hp1 : 0 ≤ x.2 * (swapN x.1 r : Int) := Int.mul_nonneg (by omega) (by omega)
      have hp2 : x.2 * (swapN x.1 r : Int) ≤ 1000 * 25 := Int.mul_le_mul (by omega) (by omega) (by omega) (by omega)
      have HN := hide (kemV_at (r := r) hx)
      have HC : Hid (∀ w', Ext wr w' → Calls Tryz.prog 223 #[.slice a' x.1.length c', .slice ar r.length cr] w' fun e w'' => e = .returned (.int .i64 (swapN x.1 r : Nat)) ∧ Ext w' w'') := fun w' hw' =>
        swap_spec w' a' ar c' cr x.1.length x.1 r rfl (by omega) (hRx.ext hw') hc' (hRr.ext ((hw.trans hwr).trans hw')) hr5
      have e0 := new0 wr (.slice a' x.1.length c') [.int .i64 x.2] 55
      have e1 := new1 wr (.slice a' x.1.length c') (.int .i64 x.2) [] 55
      have y1 : IntKind.i64.wrap (x.2 * (swapN x.1 r : Int)) = x.2 * (swapN x.1 r : Int) := IntWalk.i64_in _ (by omega)
      have y2 : IntKind.i64.wrap (kemV (vs.take k) r + x.2 * (swapN x.1 r : Int)) = kemV (vs.take k) r + x.2 * (swapN x.1 r : Int) := IntWalk.i64_in _ (by omega)
      clear hx hxs hxl hsb hp1 hp2 hRx hbd
      go_wp2
      refine wp_region_X (by kernel_rfl) (by kernel_rfl) ?_
      repeat' (refine wpX_stepQ (fun K hK => ?_)
               go_simp
               try (rw [if_neg (by intro h; simp [undef] at h)])
               try split
               all_goals
                 first
                 | (refine hK _ ?_
                    clear hK K)
                 | (apply Exists.intro
                    refine ⟨fun wq hwq => ?_, hK _ ?_⟩
                    · have hcq := hwq.cellS
                      go_simp
                      first
                      | exact ⟨Ext.refl _, rfl⟩
                      | exact ⟨Ext.refl _, HC.out _ (by repeat (first | exact Ext.refl _ | assumption | refine Ext.alloc ?_ _ | refine Ext.drew ?_ | refine Ext.trans ?_ (by assumption)))⟩
                    clear hK K))
      refine wpX_nil (fun wz hwz => ?_)
      go_wp2
      exact ⟨⟨k + 1, by omega, by go_num, by rw [HN.out], (by repeat (first | exact Ext.refl _ | assumption | refine Ext.alloc ?_ _ | refine Ext.drew ?_ | refine Ext.trans ?_ (by assumption)))⟩, by simp [intOf]; omega⟩
    · have HK : Hid (kemV (vs.take k) r = kemV vs r) := hide (by rw [List.take_of_length_le (by omega)])
      go_wp2
      go_ret
      exact ⟨ret_int HK.out, hw.trans hwr⟩

set_option maxRecDepth 100000 in
set_option maxHeartbeats 4000000 in
theorem kemB_spec (w : World) (n : Nat) (a : Option Addr) (c : Nat) (vs : List Vt) (hR : RdV w a vs) (h0 : profOk n vs = true) :
    Calls Tryz.prog 208 #[.agg #[.int .i64 n, .slice a vs.length c]] w fun e w' => ∃ v, e = .returned (.tuple #[v, .int .i64 ((lstR (kemV vs) n).2.2 : Nat)]) ∧ OwnI w' w.heap.size v (lstR (kemV vs) n).1 ∧ Ext w w' := by
  have q0 := new0 w (.int .i64 n) [.slice a vs.length c] 29
  have q1 := new1 w (.int .i64 n) (.slice a vs.length c) [] 29
  have hw := Ext.new w (.cells #[.int .i64 n, .slice a vs.length c] 29)
  have n1 : 1 ≤ n := by have := prof_size h0; omega
  have n2 : n ≤ 5 := by have := prof_size h0; omega
  have H0 := hide h0
  clear h0
  have hsz : (w.alloc (.cells #[.int .i64 n, .slice a vs.length c] 29)).heap.size = w.heap.size + 1 := by simp
  go_enter Tryz.func208, Tryz.ntmps208
  go_wp2_with fail
  rw [← hsz]
  clear hsz
  generalize w.alloc (.cells #[.int .i64 n, .slice a vs.length c] 29) = wb at hw q0 q1 ⊢
  have hO := OwnI.made0 wb
  have hE := Ext.new wb (.cells #[] 3)
  generalize wb.alloc (.cells #[] 3) = W0 at hO hE ⊢
  have q0 := hE.keep q0
  have q1 := hE.keep q1
  go_wp2_with fail
  refine (allR_spec _ n n1 n2).mono ?_
  rintro e w3 ⟨v, rfl, hv, hw3⟩
  have hO3 := hO.ext hw3
  have hE3 : Ext wb w3 := hE.trans hw3
  have q0 := hw3.keep q0
  have q1 := hw3.keep q1
  have HM : Hid (∀ r ∈ allO n, rkOk n r = true) := fun r hr => (allO_mem n1 n2).1 hr
  have HL : Hid (lstR (kemV vs) n = lstT (kemV vs) (allO n) (allO n).length) := rfl
  have hrl : (allO n).length ≤ 3125 := Nat.le_trans (allS_len n2 n []) (Nat.pow_le_pow_right (n := 5) (by decide) n2)
  have hwb2 : wb.heap.size ≤ W0.heap.size := hE.size
  generalize allO n = rows at hv HM HL hrl
  have hv := hv.wr
  have hv' := hv
  obtain ⟨av, cv, rfl, hcv, hju⟩ := hv'
  clear hju hO
  obtain ⟨wc, hwc⟩ : ∃ wc : World, wc = w3 := ⟨_, rfl⟩
  subst hwc
  have hS0 : OwnI wc wb.heap.size (.slice (some ⟨wb.heap.size, 0, none⟩) 0 0) (lstT (kemV vs) rows 0).1 := hO3
  clear hO3
  go_wp2_with fail
  go_loopw [4, 5, 6, 7, 8, 9, 15] (fun v l s _ _ _ i wr => ∃ k : Nat, k ≤ rows.length ∧ i = .int .i64 k ∧ l = .int .i64 (lstT (kemV vs) rows k).2.1 ∧ s = .int .i64 ((lstT (kemV vs) rows k).2.2 : Nat) ∧ OwnI wr wb.heap.size v (lstT (kemV vs) rows k).1 ∧ Ext wc wr) (fun _ _ _ _ _ _ i _ => rows.length - (intOf i).toNat)
  case atStart => exact ⟨0, Nat.zero_le _, rfl, rfl, rfl, hS0, Ext.refl _⟩
  case round =>
    clear hS0
    obtain ⟨k, hk, rfl, rfl, rfl, hown, hwr⟩ := hrel
    have hcn := lstT_cnt (cost := kemV vs) (xss := rows) k
    by_cases hkt : k < rows.length
    · obtain ⟨r, hr⟩ := at_of_lt hkt
      obtain ⟨g, c3, a3, c4, hav, d0, hc4, hO⟩ := (hv.ext hwr).own hr
      injection hav with hav hav2 hav3
      subst hav
      subst hav3
      clear hav2
      have hrk := HM.out r (List.mem_of_getElem? hr)
      have HR := hide hr
      have HOr := hide (hO.base hwb2)
      have hRr := hO.rdI
      have HC := hide (kemS_spec wr n a a3 c c4 vs r (hR.ext (hw.trans (hE3.trans hwr))) hRr H0.out hrk)
      have q0 := hwr.keep q0
      have q1 := hwr.keep q1
      have HOW := hide hown
      clear hr hrk hO hown hRr
      have y1 : wrap64 (((lstT (kemV vs) rows k).2.2 : Int) + 1) = ((lstT (kemV vs) rows k).2.2 : Int) + 1 := IntWalk.wrap64_in _ (by omega)
      by_cases hn : k = 0 ∨ kemV vs r < (lstT (kemV vs) rows k).2.1
      · have HT := hide (lstT_new (cost := kemV vs) HR.out hn)
        by_cases hk0 : k = 0
        · have hkb : ((k : Int) == 0) = true := by rw [hk0]; rfl
          clear hn hk0
          go_wp2_with fail
          refine HC.out.mono ?_
          rintro e w4 ⟨rfl, hw4⟩
          go_wp2
          exact ⟨⟨k + 1, by omega, by go_num, by rw [HT.out], by rw [HT.out]; rfl, by rw [HT.out]; exact HOr.out.ext hw4, hwr.trans hw4⟩, by simp [intOf]; omega⟩
        · have hkb : ((k : Int) == 0) = false := by rw [beq_eq_false_iff_ne]; omega
          have t1 : kemV vs r < (lstT (kemV vs) rows k).2.1 := by omega
          clear hn
          go_wp2_with fail
          refine HC.out.mono ?_
          rintro e w4 ⟨rfl, hw4⟩
          go_wp2
          exact ⟨⟨k + 1, by omega, by go_num, by rw [HT.out], by rw [HT.out]; rfl, by rw [HT.out]; exact HOr.out.ext hw4, hwr.trans hw4⟩, by simp [intOf]; omega⟩
      · have hk0 : k ≠ 0 := by omega
        have hkb : ((k : Int) == 0) = false := by rw [beq_eq_false_iff_ne]; omega
        have t1 : ¬ kemV vs r < (lstT (kemV vs) rows k).2.1 := by omega
        clear hn
        by_cases he : kemV vs r = (lstT (kemV vs) rows k).2.1
        · have HT := hide (lstT_tie (cost := kemV vs) HR.out hk0 he)
          have t2 : (kemV vs r == (lstT (kemV vs) rows k).2.1) = true := by rw [he]; simp
          clear he
          go_wp2_with fail
          refine HC.out.mono ?_
          rintro e w4 ⟨rfl, hw4⟩
          go_wp2
          exact ⟨⟨k + 1, by omega, by go_num, by rw [HT.out], by rw [HT.out]; rfl, by rw [HT.out]; exact HOW.out.ext hw4, hwr.trans hw4⟩, by simp [intOf]; omega⟩
        · have HT := hide (lstT_old (cost := kemV vs) HR.out hk0 (by omega))
          have t2 : (kemV vs r == (lstT (kemV vs) rows k).2.1) = false := by rw [beq_eq_false_iff_ne]; exact he
          clear he
          go_wp2_with fail
          refine HC.out.mono ?_
          rintro e w4 ⟨rfl, hw4⟩
          go_wp2
          exact ⟨⟨k + 1, by omega, by go_num, by rw [HT.out], by rw [HT.out], by rw [HT.out]; exact HOW.out.ext hw4, hwr.trans hw4⟩, by simp [intOf]; omega⟩
    · have hkn : k = rows.length := by omega
      have HE : Hid (lstR (kemV vs) n = lstT (kemV vs) rows k) := hide (by rw [HL.out, hkn])
      have hws := hw.size
      clear hkn
      go_wp2
      go_ret2
      exact ⟨_, (by rw [HE.out]; rfl), by rw [HE.out]; exact hown.base hws, hw.trans (hE3.trans hwr)⟩

set_option maxRecDepth 100000 in
set_option maxHeartbeats 1000000 in
theorem kem_spec (w : World) (sz : Int) (a : Option Addr) (c : Nat) (vs : List Vt) (hR : RdV w a vs) (h0 : profOk sz vs = true) :
    Calls Tryz.prog 188 #[.agg #[.int .i64 sz, .slice a vs.length c]] w fun e w' => ∃ v, e = .returned v ∧ OwnI w' w.heap.size v (kemO sz vs) ∧ Ext w w' := by
  obtain ⟨n, rfl, n1, n2⟩ := prof_nat h0
  have q0 := new0 w (.int .i64 n) [.slice a vs.length c] 29
  have q1 := new1 w (.int .i64 n) (.slice a vs.length c) [] 29
  have HK : Hid (kemO n vs = (lstR (kemV vs) n).1) := hide (by simp [kemO, lstO, h0])
  have H0 := hide h0
  go_enter Tryz.func188, Tryz.ntmps188
  go_wp2_with (go_at_call 127; refine (prof_spec _ _ _ _ _ (hR.ext (by repeat (first | exact Ext.refl _ | assumption | refine Ext.alloc ?_ _ | refine Ext.drew ?_ | refine Ext.trans ?_ (by assumption))))).mono ?_; rintro e w1 ⟨rfl, hw1⟩; have q0 := Ext.keep (w' := w1) (by repeat (first | exact Ext.refl _ | assumption | refine Ext.alloc ?_ _ | refine Ext.drew ?_ | refine Ext.trans ?_ (by assumption))) q0; have q1 := Ext.keep (w' := w1) (by repeat (first | exact Ext.refl _ | assumption | refine Ext.alloc ?_ _ | refine Ext.drew ?_ | refine Ext.trans ?_ (by assumption))) q1)
  clear h0
  have hw : Ext w w1 := (by repeat (first | exact Ext.refl _ | assumption | refine Ext.alloc ?_ _ | refine Ext.drew ?_ | refine Ext.trans ?_ (by assumption)))
  obtain ⟨wb, hwb⟩ : ∃ wb : World, wb = w1 := ⟨_, rfl⟩
  subst hwb
  refine (kemB_spec _ n a c vs (hR.ext hw) H0.out).mono ?_
  rintro e w2 ⟨v, rfl, hv, hw2⟩
  have hws := hw.size
  go_wp2
  go_ret
  exact ⟨_, rfl, by rw [HK.out]; exact hv.base hws, hw.trans hw2⟩

end Go.Proofs.YtilcdnkkabmbfaaGreat
