/- A candidate without which another one wins, of the program and of the spec. -/
import Derived.Test.YtilcdnkkabmbfaaGreatMod
import Derived.Test.YtilcdnkkabmbfaaGreatWin
import Derived.Test.YtilcdnkkabmbfaaGreatBld
namespace Go.Proofs.YtilcdnkkabmbfaaGreat
open Go.RowKit

set_option maxRecDepth 100000 in
theorem dropMap (y : Int) (vs : List Vt) : vs.map (fun x => (dropL y x.1, x.2)) = mapV (dropL y) vs := rfl

set_option maxRecDepth 100000 in
set_option maxHeartbeats 4000000 in
theorem drop1_impl (w : World) (a : Option Addr) (c : Nat) (vs : List Vt) (y : Int) :
    Calls Tryz.prog 20 #[.agg #[.int .i64 1, .slice a vs.length c], .int .i64 y] w fun e w' => e = .returned (.tuple #[.agg #[.int .i64 0, .slice none 0 0], .bool false]) ∧ Ext w w' := by
  have q0 := new0 w (.int .i64 1) [.slice a vs.length c] 29
  have q1 := new1 w (.int .i64 1) (.slice a vs.length c) [] 29
  have hs0 : (w.alloc (.cells #[.int .i64 1, .slice a vs.length c] 29)).heap.size = w.heap.size + 1 := by simp
  have y00 := new0 (w.alloc (.cells #[.int .i64 1, .slice a vs.length c] 29)) (.int .i64 y) [] 3
  have hs1 : ((w.alloc (.cells #[.int .i64 1, .slice a vs.length c] 29)).alloc (.cells #[.int .i64 y] 3)).heap.size = w.heap.size + 2 := by simp
  have p0 := BlkF.new ((w.alloc (.cells #[.int .i64 1, .slice a vs.length c] 29)).alloc (.cells #[.int .i64 y] 3)) #[.int .i64 0, .slice none 0 0] 29
  rw [hs0] at y00
  rw [hs1] at p0
  have P0 := hide p0
  clear p0 hs0 hs1
  have hz1 : (1 : Int) ≤ 1 := by omega
  have hz2 : (1 : Int) ≤ 5 := by omega
  cases hb : hasB 1 y
  all_goals
    go_enter Tryz.func20, Tryz.ntmps20
    go_wp2_with fail
    have HH := cand_impl (((w.alloc (.cells #[.int .i64 1, .slice a vs.length c] 29)).alloc (.cells #[.int .i64 y] 3)).alloc (.cells #[.int .i64 0, .slice none 0 0] 29)) 1 a vs.length c y hz1 hz2
    rw [hb] at HH
    refine HH.mono ?_
    rintro e w1 ⟨rfl, hw1⟩
    have p1 := P0.out.ext hw1
    have q0 := Ext.keep (w' := w1) (by repeat (first | exact Ext.refl _ | assumption | refine Ext.alloc ?_ _ | refine Ext.drew ?_ | refine Ext.trans ?_ (by assumption))) q0
    have q1 := Ext.keep (w' := w1) (by repeat (first | exact Ext.refl _ | assumption | refine Ext.alloc ?_ _ | refine Ext.drew ?_ | refine Ext.trans ?_ (by assumption))) q1
    have hw : Ext w w1 := (by repeat (first | exact Ext.refl _ | assumption | refine Ext.alloc ?_ _ | refine Ext.drew ?_ | refine Ext.trans ?_ (by assumption)))
    have r0 := p1.cell 0 (by simp)
    have r1 := p1.cell 1 (by simp)
    have z0 := p1.fr 0
    have z1 := p1.fr 1
    clear p1 P0 hw1
    go_wp2
    have hO1 : Only (w.heap.size + 2) w1 ((w1.setCell ⟨w.heap.size + 2, 0, none⟩ (.int .i64 0)).setCell ⟨w.heap.size + 2, 1, none⟩ (.slice none 0 0)) := ((Only.refl _ w1).setCell 0 _).setCell 1 _
    exact bodyPost_ret (v := .tuple #[.agg #[.int .i64 0, .slice none 0 0], .bool false]) (by simp [results, Tryz.results20, go_sem, r0, r1]) rfl ⟨rfl, Only.ext hw hO1 (by omega)⟩

set_option maxRecDepth 100000 in
set_option maxHeartbeats 4000000 in
theorem spo_impl (w : World) (rule sz : Int) (a : Option Addr) (c : Nat) (vs : List Vt) (hR : RdV w a vs) :
    Calls Tryz.prog 19 #[.int .i64 rule, .agg #[.int .i64 sz, .slice a vs.length c]] w fun e w' => e = .returned (.int .i64 (spoO rule sz vs)) ∧ Ext w w' := by
  have q0 := new0 w (.int .i64 sz) [.slice a vs.length c] 29
  have q1 := new1 w (.int .i64 sz) (.slice a vs.length c) [] 29
  obtain ⟨ww, hww⟩ : ∃ ww, ww = winB rule sz vs := ⟨_, rfl⟩
  have HWB : Hid (∀ w', Ext w w' → Calls Tryz.prog 18 #[.int .i64 rule, .agg #[.int .i64 sz, .slice a vs.length c]] w' fun e w'' => e = .returned (.int .i64 ww) ∧ Ext w' w'') := fun w' hw' => by
    rw [hww]; exact winb_impl w' rule sz a c vs (hR.ext hw')
  by_cases h1 : ww < 0
  · have HF : Hid (spoO rule sz vs = -1) := hide (by unfold spoO; rw [← hww, if_pos h1])
    clear hww
    go_enter Tryz.func19, Tryz.ntmps19
    go_wp2_with (go_at_call 18; refine (HWB.out _ (by repeat (first | exact Ext.refl _ | assumption | refine Ext.alloc ?_ _ | refine Ext.drew ?_ | refine Ext.trans ?_ (by assumption)))).mono ?_; rintro e w1 ⟨rfl, hw1⟩; have q0 := Ext.keep (w' := w1) (by repeat (first | exact Ext.refl _ | assumption | refine Ext.alloc ?_ _ | refine Ext.drew ?_ | refine Ext.trans ?_ (by assumption))) q0; have q1 := Ext.keep (w' := w1) (by repeat (first | exact Ext.refl _ | assumption | refine Ext.alloc ?_ _ | refine Ext.drew ?_ | refine Ext.trans ?_ (by assumption))) q1)
    go_ret
    exact ⟨ret_int HF.out.symm, (by repeat (first | exact Ext.refl _ | assumption | refine Ext.alloc ?_ _ | refine Ext.drew ?_ | refine Ext.trans ?_ (by assumption)))⟩
  obtain ⟨h0, r1, r2⟩ := winB_pos (rule := rule) (sz := sz) (vs := vs) (by rw [← hww]; omega)
  obtain ⟨n, rfl, n1, n2⟩ := prof_nat h0
  have HF : Hid (spoO rule n vs = firstN n (spoQ rule n vs ww)) := hide (by unfold spoO; rw [← hww, if_neg h1, Int.toNat_natCast])
  obtain ⟨wn, hwn, hwe⟩ := winB_some (rule := rule) h0 r1 r2
  rw [← hww] at hwe
  have HDC : Hid (∀ (k : Nat) w', k < n → Ext w w' → Calls Tryz.prog 20 #[.agg #[.int .i64 n, .slice a vs.length c], .int .i64 k] w' fun e w'' => ∃ s2 a2 m2 c2 b, e = .returned (.tuple #[.agg #[.int .i64 s2, .slice a2 m2 c2], .bool b]) ∧ (2 ≤ n → s2 = (n : Int) - 1 ∧ b = true ∧ m2 = (mapV (dropL k) vs).length ∧ RdV w'' a2 (mapV (dropL k) vs)) ∧ Ext w' w'') := fun k w' hk hw' => by
    by_cases hn : n = 1
    · subst hn
      refine (drop1_impl w' a c vs k).mono ?_
      rintro e w2 ⟨rfl, hw2⟩
      exact ⟨_, _, _, _, _, rfl, fun h => by omega, hw2⟩
    · refine (dropP_impl w' n a c vs k (hR.ext hw') h0 (by omega) (by omega)).mono ?_
      rintro e w2 ⟨v, es, rfl, hl, hm, hw2⟩
      obtain ⟨av, cv, rfl, hcv⟩ := hl.form
      have hRv := hl.rdV
      rw [hm, dropMap] at hRv
      exact ⟨_, _, _, _, _, rfl, fun _ => ⟨rfl, rfl, vtsOf_len (by rw [hm, dropMap]), hRv⟩, hw2⟩
  clear hww h0 r1 r2
  subst hwe
  have hw5 : wn < 5 := by omega
  go_enter Tryz.func19, Tryz.ntmps19
  go_wp2_with (go_at_call 18; refine (HWB.out _ (by repeat (first | exact Ext.refl _ | assumption | refine Ext.alloc ?_ _ | refine Ext.drew ?_ | refine Ext.trans ?_ (by assumption)))).mono ?_; rintro e w1 ⟨rfl, hw1⟩; have q0 := Ext.keep (w' := w1) (by repeat (first | exact Ext.refl _ | assumption | refine Ext.alloc ?_ _ | refine Ext.drew ?_ | refine Ext.trans ?_ (by assumption))) q0; have q1 := Ext.keep (w' := w1) (by repeat (first | exact Ext.refl _ | assumption | refine Ext.alloc ?_ _ | refine Ext.drew ?_ | refine Ext.trans ?_ (by assumption))) q1)
  have hw : Ext w w1 := (by repeat (first | exact Ext.refl _ | assumption | refine Ext.alloc ?_ _ | refine Ext.drew ?_ | refine Ext.trans ?_ (by assumption)))
  obtain ⟨wb, hwb⟩ : ∃ wb : World, wb = w1 := ⟨_, rfl⟩
  subst hwb
  have Q0 := q0
  have Q1 := q1
  clear hw1 HWB
  go_loopw [6, 7, 8, 9, 17] (fun _ _ _ _ i wr => ∃ k : Nat, k ≤ n ∧ i = .int .i64 k ∧ Hid (∀ j, j < k → spoQ rule n vs wn j = false) ∧ Ext wb wr) (fun _ _ _ _ i _ => n - (intOf i).toNat)
  case atStart => exact ⟨0, Nat.zero_le _, rfl, fun j hj => absurd hj (by omega), Ext.refl _⟩
  case round =>
    obtain ⟨k, hk, rfl, hno, hwr⟩ := hrel
    by_cases hkt : k < n
    · have q0 := hwr.keep Q0
      have q1 := hwr.keep Q1
      have HD := hide (HDC.out k wr hkt (hw.trans hwr))
      have hk1 : k + 1 ≤ n := by omega
      have HWI : Hid (∀ w' a3 n3 c3, n3 = (mapV (dropL k) vs).length → RdV w' a3 (mapV (dropL k) vs) → Calls Tryz.prog 18 #[.int .i64 rule, .agg #[.int .i64 ((n : Int) - 1), .slice a3 n3 c3]] w' fun e w'' => e = .returned (.int .i64 (winB rule ((n : Int) - 1) (mapV (dropL k) vs))) ∧ Ext w' w'') := fun w' a3 n3 c3 hn hR3 => by
        rw [hn]; exact winb_impl w' rule _ a3 c3 _ hR3
      by_cases hkw : k = wn
      · have HN := none_succ hno.out (show spoQ rule n vs wn k = false by unfold spoQ; rw [hkw]; simp)
        have t0 : ((k : Int) == (wn : Int)) = true := by rw [hkw]; simp
        clear hkw
        go_wp2_with fail
        refine HD.out.mono ?_
        rintro e w2 ⟨s2, a2, m2, c2, bb, rfl, hju, hw2⟩
        clear hju
        cases bb
        all_goals go_wp2
        all_goals exact ⟨⟨k + 1, hk1, by go_num, HN, (by repeat (first | exact Ext.refl _ | assumption | refine Ext.alloc ?_ _ | refine Ext.drew ?_ | refine Ext.trans ?_ (by assumption)))⟩, by simp [intOf]; omega⟩
      · have t0 : ((k : Int) == (wn : Int)) = false := by rw [beq_eq_false_iff_ne]; omega
        have hn2 : 2 ≤ n := by omega
        obtain ⟨W, hW⟩ : ∃ W, W = winB rule ((n : Int) - 1) (mapV (dropL k) vs) := ⟨_, rfl⟩
        rw [← hW] at HWI
        obtain ⟨xx, hxx⟩ : ∃ xx : Int, xx = (if (k : Int) < (wn : Int) then (wn : Int) - 1 else (wn : Int)) := ⟨_, rfl⟩
        have HSQ : Hid (spoQ rule n vs wn k = !(W == xx)) := hide (by unfold spoQ; rw [t0, hW, hxx]; rfl)
        go_wp2_with fail
        refine HD.out.mono ?_
        rintro e w2 ⟨s2, a2, m2, c2, bb, rfl, hsp, hw2⟩
        obtain ⟨rfl, rfl, hm2, hR2⟩ := hsp hn2
        have HW := hide (HWI.out (w2.alloc (.cells #[.int .i64 ((n : Int) - 1), .slice a2 m2 c2] 29)) a2 m2 c2 hm2 (hR2.ext (Ext.new _ _)))
        have hwe : Ext wb (w2.alloc (.cells #[.int .i64 ((n : Int) - 1), .slice a2 m2 c2] 29)) := (hwr.trans hw2).trans (Ext.new _ _)
        clear hm2 hR2 HWI hW HD hsp hkw hwr
        by_cases hlt : (k : Int) < (wn : Int)
        · rw [if_pos hlt] at hxx
          have y1 : wrap64 ((wn : Int) - 1) = (wn : Int) - 1 := IntWalk.wrap64_in _ (by omega)
          subst hxx
          cases he : (W == ((wn : Int) - 1))
          · rw [he] at HSQ
            have HR2 : Hid (firstN n (spoQ rule n vs wn) = k) := firstN_some hkt hno.out HSQ.out
            have t1 : (W != ((wn : Int) - 1)) = true := by rw [bne, he]; rfl
            go_wp2_with fail
            refine HW.out.mono ?_
            rintro e w4 ⟨rfl, hw4⟩
            go_wp2
            go_ret
            exact ⟨ret_int (by rw [HF.out, HR2.out]), hw.trans (hwe.trans hw4)⟩
          · rw [he] at HSQ
            have HN := none_succ hno.out HSQ.out
            have t1 : (W != ((wn : Int) - 1)) = false := by rw [bne, he]; rfl
            go_wp2_with fail
            clear y1
            refine HW.out.mono ?_
            rintro e w4 ⟨rfl, hw4⟩
            go_wp2
            exact ⟨⟨k + 1, hk1, by go_num, HN, hwe.trans hw4⟩, by simp [intOf]; omega⟩
        · rw [if_neg hlt] at hxx
          subst hxx
          cases he : (W == (wn : Int))
          · rw [he] at HSQ
            have HR2 : Hid (firstN n (spoQ rule n vs wn) = k) := firstN_some hkt hno.out HSQ.out
            have t1 : (W != (wn : Int)) = true := by rw [bne, he]; rfl
            go_wp2_with fail
            refine HW.out.mono ?_
            rintro e w4 ⟨rfl, hw4⟩
            go_wp2
            go_ret
            exact ⟨ret_int (by rw [HF.out, HR2.out]), hw.trans (hwe.trans hw4)⟩
          · rw [he] at HSQ
            have HN := none_succ hno.out HSQ.out
            have t1 : (W != (wn : Int)) = false := by rw [bne, he]; rfl
            go_wp2_with fail
            refine HW.out.mono ?_
            rintro e w4 ⟨rfl, hw4⟩
            go_wp2
            exact ⟨⟨k + 1, hk1, by go_num, HN, hwe.trans hw4⟩, by simp [intOf]; omega⟩
    · have HN : Hid (firstN n (spoQ rule n vs wn) = -1) := firstN_none (fun j hj => hno.out j (by omega))
      go_wp2
      go_ret
      exact ⟨ret_int (by rw [HF.out, HN.out]), hw.trans hwr⟩

end Go.Proofs.YtilcdnkkabmbfaaGreat
