/- The rules by which a candidate wins, of the program and of the spec. -/
import Derived.Test.YtilcdnkkabmbfaaGreatWin
import Derived.Test.YtilcdnkkabmbfaaGreatMod
namespace Go.Proofs.YtilcdnkkabmbfaaGreat
open Go.RowKit

set_option maxRecDepth 100000 in
set_option maxHeartbeats 2000000 in
theorem rul_impl (w : World) (sz : Int) (a : Option Addr) (c : Nat) (vs : List Vt) (x : Int) (hR : RdV w a vs) :
    Calls Tryz.prog 16 #[.agg #[.int .i64 sz, .slice a vs.length c], .int .i64 x] w fun e w' => ∃ v, e = .returned v ∧ OwnI w' w.heap.size v (rulO sz vs x) ∧ Ext w w' := by
  have q0 := new0 w (.int .i64 sz) [.slice a vs.length c] 29
  have q1 := new1 w (.int .i64 sz) (.slice a vs.length c) [] 29
  cases h0 : profOk sz vs
  · have HK : Hid (rulO sz vs x = []) := hide (by unfold rulO; rw [h0]; rfl)
    have H0 := hide h0
    clear h0
    go_enter Tryz.func16, Tryz.ntmps16
    have hw := Ext.new w (.cells #[.int .i64 sz, .slice a vs.length c] 29)
    go_wp2_with fail
    generalize w.alloc (.cells #[.int .i64 sz, .slice a vs.length c] 29) = wb at hw q0 q1 ⊢
    go_loopw [5, 6] (fun v i wr => ∃ k : Nat, k ≤ 13 ∧ i = .int .i64 ((k : Int) + 1) ∧ v = .slice none 0 0 ∧ Ext wb wr) (fun _ i _ => 14 - (intOf i).toNat)
    case atStart => exact ⟨0, Nat.zero_le _, rfl, rfl, Ext.refl _⟩
    case round =>
      obtain ⟨k, hk, rfl, rfl, hwr⟩ := hrel
      have q0 := hwr.keep q0
      have q1 := hwr.keep q1
      have y1 : wrap64 ((k : Int) + 1 + 1) = ((k + 1 : Nat) : Int) + 1 := by rw [IntWalk.wrap64_in _ (by omega)]; omega
      by_cases hlt : k < 13
      · have t1 : (k : Int) + 1 ≤ 13 := by omega
        have HC := prof_impl wr sz a c vs (hR.ext (hw.trans hwr))
        rw [H0.out] at HC
        have HC := hide HC
        go_wp2_with fail
        refine HC.out.mono ?_
        rintro e w2 ⟨rfl, hw2⟩
        go_wp2
        exact ⟨⟨k + 1, by omega, rfl, rfl, hwr.trans hw2⟩, by simp [intOf]; omega⟩
      · have t1 : ¬ (k : Int) + 1 ≤ 13 := by omega
        go_wp2
        go_ret
        exact ⟨_, rfl, by rw [HK.out]; exact OwnI.nil _ _, hw.trans hwr⟩
  have HK : Hid (rulO sz vs x = rulL sz vs x 13) := hide (by unfold rulO; rw [if_pos h0])
  have H0 := hide h0
  clear h0
  go_enter Tryz.func16, Tryz.ntmps16
  have hw := Ext.new w (.cells #[.int .i64 sz, .slice a vs.length c] 29)
  go_wp2_with fail
  generalize w.alloc (.cells #[.int .i64 sz, .slice a vs.length c] 29) = wb at hw q0 q1 ⊢
  go_loopw [5, 6] (fun v i wr => ∃ k : Nat, k ≤ 13 ∧ i = .int .i64 ((k : Int) + 1) ∧ OwnI wr wb.heap.size v (rulL sz vs x k) ∧ Ext wb wr) (fun _ i _ => 14 - (intOf i).toNat)
  case atStart => exact ⟨0, Nat.zero_le _, rfl, OwnI.nil _ _, Ext.refl _⟩
  case round =>
    obtain ⟨k, hk, rfl, hown, hwr⟩ := hrel
    have q0 := hwr.keep q0
    have q1 := hwr.keep q1
    have y1 : wrap64 ((k : Int) + 1 + 1) = ((k + 1 : Nat) : Int) + 1 := by rw [IntWalk.wrap64_in _ (by omega)]; omega
    have hrl := rulL_len sz vs x k
    by_cases hlt : k < 13
    · have t1 : (k : Int) + 1 ≤ 13 := by omega
      have HS := hide (rulL_succ sz vs x k)
      have HC := hide (fun w' (hw' : Ext wr w') => winb_impl w' ((k : Int) + 1) sz a c vs (hR.ext ((hw.trans hwr).trans hw')))
      have HP := prof_impl wr sz a c vs (hR.ext (hw.trans hwr))
      rw [H0.out] at HP
      have HP := hide HP
      generalize hu : winB ((k : Int) + 1) sz vs = u at HC HS
      clear hu
      cases he : (u == x)
      · have HN : Hid (rulL sz vs x (k + 1) = rulL sz vs x k) := hide (by rw [HS.out, if_neg (by simpa using he), List.append_nil])
        clear HS
        go_wp2_with fail
        refine HP.out.mono ?_
        rintro e w3 ⟨rfl, hw3⟩
        have q0 := hw3.keep q0
        have q1 := hw3.keep q1
        go_wp2_with fail
        refine (HC.out w3 hw3).mono ?_
        rintro e w2 ⟨rfl, hw2⟩
        go_wp2
        exact ⟨⟨k + 1, by omega, rfl, by rw [HN.out]; exact hown.ext (hw3.trans hw2), hwr.trans (hw3.trans hw2)⟩, by simp [intOf]; omega⟩
      · have HN : Hid (rulL sz vs x (k + 1) = rulL sz vs x k ++ [(k : Int) + 1]) := hide (by rw [HS.out, if_pos (by simpa using he)])
        clear HS
        go_wp2_with fail
        refine HP.out.mono ?_
        rintro e w3 ⟨rfl, hw3⟩
        have q0 := hw3.keep q0
        have q1 := hw3.keep q1
        go_wp2_with fail
        refine (HC.out w3 hw3).mono ?_
        rintro e w2 ⟨rfl, hw2⟩
        have hwr2 := hwr.trans (hw3.trans hw2)
        have hown := hown.ext hw3
        go_wp2_with (at_builtin; refine wpList_appI wb _ rfl _ _ rfl _ (rulL sz vs x k) _ rfl (hown.ext (by repeat (first | exact Ext.refl _ | assumption | refine Ext.alloc ?_ _ | refine Ext.drew ?_ | refine Ext.trans ?_ (by assumption)))) (by repeat (first | exact Ext.refl _ | assumption | refine Ext.alloc ?_ _ | refine Ext.drew ?_ | refine Ext.trans ?_ (by assumption))) rfl (by omega) ?_; intro v' w3 hown3 hw3)
        exact ⟨⟨k + 1, by omega, rfl, by rw [HN.out]; exact hown3, (by repeat (first | exact Ext.refl _ | assumption | refine Ext.alloc ?_ _ | refine Ext.drew ?_ | refine Ext.trans ?_ (by assumption)))⟩, by simp [intOf]; omega⟩
    · have t1 : ¬ (k : Int) + 1 ≤ 13 := by omega
      have hkn : k = 13 := by omega
      go_wp2
      go_ret
      exact ⟨_, rfl, by rw [HK.out, ← hkn]; exact hown.base hw.size, hw.trans hwr⟩

end Go.Proofs.YtilcdnkkabmbfaaGreat
