/- FirstGain and CountGains, of the program and of the spec. -/
import Derived.Test.YtilcdnkkabmbfaaGreatGby
namespace Go.Proofs.YtilcdnkkabmbfaaGreat
open Go.RowKit

noncomputable def gcntO (rule sz : Int) (vs : List Vt) : Int := ((cntN vs.length (gainB rule sz vs) : Nat) : Int)

set_option maxRecDepth 100000 in
set_option maxHeartbeats 4000000 in
theorem gfst_impl (w : World) (rule sz : Int) (a : Option Addr) (c : Nat) (vs : List Vt) (hl : vs.length ≤ 2000000) (hR : RdV w a vs) :
    Calls Tryz.prog 10 #[.int .i64 rule, .agg #[.int .i64 sz, .slice a vs.length c]] w fun e w' => e = .returned (.int .i64 (gfstO rule sz vs)) ∧ Ext w w' := by
  have q0 := new0 w (.int .i64 sz) [.slice a vs.length c] 29
  have q1 := new1 w (.int .i64 sz) (.slice a vs.length c) [] 29
  have hw := Ext.new w (.cells #[.int .i64 sz, .slice a vs.length c] 29)
  have HG : Hid (∀ w' (k : Nat), Ext w w' → Calls Tryz.prog 30 #[.int .i64 rule, .agg #[.int .i64 sz, .slice a vs.length c], .int .i64 k] w' fun e w'' => ∃ v, e = .returned (.tuple #[v, .bool (gainB rule sz vs k)]) ∧ Ext w' w'') := fun w' k hw' => gby_impl w' rule sz a c vs k (hR.ext hw')
  go_enter Tryz.func10, Tryz.ntmps10
  go_wp2_with fail
  generalize w.alloc (.cells #[.int .i64 sz, .slice a vs.length c] 29) = W0 at q0 q1 hw ⊢
  have Q0 := q0
  have Q1 := q1
  go_loopw [5, 6, 7, 11] (fun _ _ _ i wr => ∃ k : Nat, k ≤ vs.length ∧ i = .int .i64 k ∧ Hid (∀ j, j < k → gainB rule sz vs j = false) ∧ Ext W0 wr) (fun _ _ _ i _ => vs.length - (intOf i).toNat)
  case atStart => exact ⟨0, Nat.zero_le _, rfl, hide (fun j hj => by omega), Ext.refl _⟩
  case round =>
    obtain ⟨k, hk, rfl, hno, hwr⟩ := hrel
    have q0 := hwr.keep Q0
    have q1 := hwr.keep Q1
    by_cases hlt : k < vs.length
    · have HGk := hide (HG.out wr k (hw.trans hwr))
      have hk1 : k + 1 ≤ vs.length := by omega
      cases hg : gainB rule sz vs k
      · rw [hg] at HGk
        have HN : Hid (∀ j, j < k + 1 → gainB rule sz vs j = false) := hide (none_succ hno.out hg)
        clear hg
        go_wp2_with fail
        refine HGk.out.mono ?_
        rintro e w4 ⟨v, rfl, hw4⟩
        go_wp2
        exact ⟨⟨k + 1, hk1, by go_num, HN, hwr.trans hw4⟩, by simp [intOf]; omega⟩
      · rw [hg] at HGk
        have HF : Hid (gfstO rule sz vs = k) := hide (firstN_some hlt hno.out hg)
        clear hg
        go_wp2_with fail
        refine HGk.out.mono ?_
        rintro e w4 ⟨v, rfl, hw4⟩
        go_wp2
        go_ret
        exact ⟨ret_int HF.out.symm, hw.trans (hwr.trans hw4)⟩
    · have HF : Hid (gfstO rule sz vs = -1) := hide (firstN_none (fun j hj => hno.out j (by omega)))
      go_wp2
      go_ret
      exact ⟨ret_int HF.out.symm, hw.trans hwr⟩

set_option maxRecDepth 100000 in
set_option maxHeartbeats 4000000 in
theorem gcnt_impl (w : World) (rule sz : Int) (a : Option Addr) (c : Nat) (vs : List Vt) (hl : vs.length ≤ 2000000) (hR : RdV w a vs) :
    Calls Tryz.prog 13 #[.int .i64 rule, .agg #[.int .i64 sz, .slice a vs.length c]] w fun e w' => e = .returned (.int .i64 (gcntO rule sz vs)) ∧ Ext w w' := by
  have q0 := new0 w (.int .i64 sz) [.slice a vs.length c] 29
  have q1 := new1 w (.int .i64 sz) (.slice a vs.length c) [] 29
  have hw := Ext.new w (.cells #[.int .i64 sz, .slice a vs.length c] 29)
  have HG : Hid (∀ w' (k : Nat), Ext w w' → Calls Tryz.prog 30 #[.int .i64 rule, .agg #[.int .i64 sz, .slice a vs.length c], .int .i64 k] w' fun e w'' => ∃ v, e = .returned (.tuple #[v, .bool (gainB rule sz vs k)]) ∧ Ext w' w'') := fun w' k hw' => gby_impl w' rule sz a c vs k (hR.ext hw')
  go_enter Tryz.func13, Tryz.ntmps13
  go_wp2_with fail
  generalize w.alloc (.cells #[.int .i64 sz, .slice a vs.length c] 29) = W0 at q0 q1 hw ⊢
  have Q0 := q0
  have Q1 := q1
  go_loopw [5, 6, 7, 8, 12] (fun n _ _ _ i wr => ∃ k m : Nat, k ≤ vs.length ∧ i = .int .i64 k ∧ n = .int .i64 m ∧ m ≤ k ∧ Hid (m = cntN k (gainB rule sz vs)) ∧ Ext W0 wr) (fun _ _ _ _ i _ => vs.length - (intOf i).toNat)
  case atStart => exact ⟨0, 0, Nat.zero_le _, rfl, rfl, Nat.le_refl _, hide (cntN_zero _).symm, Ext.refl _⟩
  case round =>
    obtain ⟨k, m, hk, rfl, rfl, hmk, hm, hwr⟩ := hrel
    have q0 := hwr.keep Q0
    have q1 := hwr.keep Q1
    by_cases hlt : k < vs.length
    · have HGk := hide (HG.out wr k (hw.trans hwr))
      have HS := hide (cntN_succ k (gainB rule sz vs))
      have hk1 : k + 1 ≤ vs.length := by omega
      cases hg : gainB rule sz vs k
      · rw [hg] at HGk HS
        have HN : Hid (m = cntN (k + 1) (gainB rule sz vs)) := hide (by rw [HS.out, hm.out]; simp)
        clear hg HS
        go_wp2_with fail
        refine HGk.out.mono ?_
        rintro e w4 ⟨v, rfl, hw4⟩
        go_wp2
        exact ⟨⟨k + 1, m, hk1, by go_num, rfl, by omega, HN, hwr.trans hw4⟩, by simp [intOf]; omega⟩
      · rw [hg] at HGk HS
        have HN : Hid (m + 1 = cntN (k + 1) (gainB rule sz vs)) := hide (by rw [HS.out, hm.out]; simp)
        clear hg HS
        go_wp2_with fail
        refine HGk.out.mono ?_
        rintro e w4 ⟨v, rfl, hw4⟩
        go_wp2
        exact ⟨⟨k + 1, m + 1, hk1, by go_num, by go_num, by omega, HN, hwr.trans hw4⟩, by simp [intOf]; omega⟩
    · have hkn : k = vs.length := by omega
      have HF : Hid (gcntO rule sz vs = m) := hide (by unfold gcntO; rw [hm.out, hkn])
      go_wp2
      go_ret
      exact ⟨ret_int HF.out.symm, hw.trans hwr⟩

set_option maxRecDepth 100000 in
set_option maxHeartbeats 4000000 in
theorem gfst_spec (w : World) (rule sz : Int) (a : Option Addr) (c : Nat) (vs : List Vt) (hl : vs.length ≤ 2000000) (hR : RdV w a vs) :
    Calls Tryz.prog 8 #[.int .i64 rule, .agg #[.int .i64 sz, .slice a vs.length c]] w fun e w' => e = .returned (.int .i64 (gfstO rule sz vs)) ∧ Ext w w' := by
  have q0 := new0 w (.int .i64 sz) [.slice a vs.length c] 29
  have q1 := new1 w (.int .i64 sz) (.slice a vs.length c) [] 29
  have hw := Ext.new w (.cells #[.int .i64 sz, .slice a vs.length c] 29)
  have HG : Hid (∀ w' (k : Nat), Ext w w' → Calls Tryz.prog 28 #[.int .i64 rule, .agg #[.int .i64 sz, .slice a vs.length c], .int .i64 k] w' fun e w'' => ∃ v, e = .returned (.tuple #[v, .bool (gainB rule sz vs k)]) ∧ Ext w' w'') := fun w' k hw' => gby_spec w' rule sz a c vs k (hR.ext hw')
  go_enter Tryz.func8, Tryz.ntmps8
  go_wp2_with fail
  generalize w.alloc (.cells #[.int .i64 sz, .slice a vs.length c] 29) = W0 at q0 q1 hw ⊢
  have Q0 := q0
  have Q1 := q1
  go_loopw [5, 6, 7, 11] (fun _ _ _ i wr => ∃ k : Nat, k ≤ vs.length ∧ i = .int .i64 k ∧ Hid (∀ j, j < k → gainB rule sz vs j = false) ∧ Ext W0 wr) (fun _ _ _ i _ => vs.length - (intOf i).toNat)
  case atStart => exact ⟨0, Nat.zero_le _, rfl, hide (fun j hj => by omega), Ext.refl _⟩
  case round =>
    obtain ⟨k, hk, rfl, hno, hwr⟩ := hrel
    have q0 := hwr.keep Q0
    have q1 := hwr.keep Q1
    by_cases hlt : k < vs.length
    · have HGk := hide (HG.out wr k (hw.trans hwr))
      have hk1 : k + 1 ≤ vs.length := by omega
      cases hg : gainB rule sz vs k
      · rw [hg] at HGk
        have HN : Hid (∀ j, j < k + 1 → gainB rule sz vs j = false) := hide (none_succ hno.out hg)
        clear hg
        go_wp2_with fail
        refine HGk.out.mono ?_
        rintro e w4 ⟨v, rfl, hw4⟩
        go_wp2
        exact ⟨⟨k + 1, hk1, by go_num, HN, hwr.trans hw4⟩, by simp [intOf]; omega⟩
      · rw [hg] at HGk
        have HF : Hid (gfstO rule sz vs = k) := hide (firstN_some hlt hno.out hg)
        clear hg
        go_wp2_with fail
        refine HGk.out.mono ?_
        rintro e w4 ⟨v, rfl, hw4⟩
        go_wp2
        go_ret
        exact ⟨ret_int HF.out.symm, hw.trans (hwr.trans hw4)⟩
    · have HF : Hid (gfstO rule sz vs = -1) := hide (firstN_none (fun j hj => hno.out j (by omega)))
      go_wp2
      go_ret
      exact ⟨ret_int HF.out.symm, hw.trans hwr⟩

set_option maxRecDepth 100000 in
set_option maxHeartbeats 4000000 in
theorem gcnt_spec (w : World) (rule sz : Int) (a : Option Addr) (c : Nat) (vs : List Vt) (hl : vs.length ≤ 2000000) (hR : RdV w a vs) :
    Calls Tryz.prog 12 #[.int .i64 rule, .agg #[.int .i64 sz, .slice a vs.length c]] w fun e w' => e = .returned (.int .i64 (gcntO rule sz vs)) ∧ Ext w w' := by
  have q0 := new0 w (.int .i64 sz) [.slice a vs.length c] 29
  have q1 := new1 w (.int .i64 sz) (.slice a vs.length c) [] 29
  have hw := Ext.new w (.cells #[.int .i64 sz, .slice a vs.length c] 29)
  have HG : Hid (∀ w' (k : Nat), Ext w w' → Calls Tryz.prog 28 #[.int .i64 rule, .agg #[.int .i64 sz, .slice a vs.length c], .int .i64 k] w' fun e w'' => ∃ v, e = .returned (.tuple #[v, .bool (gainB rule sz vs k)]) ∧ Ext w' w'') := fun w' k hw' => gby_spec w' rule sz a c vs k (hR.ext hw')
  go_enter Tryz.func12, Tryz.ntmps12
  go_wp2_with fail
  generalize w.alloc (.cells #[.int .i64 sz, .slice a vs.length c] 29) = W0 at q0 q1 hw ⊢
  have Q0 := q0
  have Q1 := q1
  go_loopw [5, 6, 7, 8, 12] (fun n _ _ _ i wr => ∃ k m : Nat, k ≤ vs.length ∧ i = .int .i64 k ∧ n = .int .i64 m ∧ m ≤ k ∧ Hid (m = cntN k (gainB rule sz vs)) ∧ Ext W0 wr) (fun _ _ _ _ i _ => vs.length - (intOf i).toNat)
  case atStart => exact ⟨0, 0, Nat.zero_le _, rfl, rfl, Nat.le_refl _, hide (cntN_zero _).symm, Ext.refl _⟩
  case round =>
    obtain ⟨k, m, hk, rfl, rfl, hmk, hm, hwr⟩ := hrel
    have q0 := hwr.keep Q0
    have q1 := hwr.keep Q1
    by_cases hlt : k < vs.length
    · have HGk := hide (HG.out wr k (hw.trans hwr))
      have HS := hide (cntN_succ k (gainB rule sz vs))
      have hk1 : k + 1 ≤ vs.length := by omega
      cases hg : gainB rule sz vs k
      · rw [hg] at HGk HS
        have HN : Hid (m = cntN (k + 1) (gainB rule sz vs)) := hide (by rw [HS.out, hm.out]; simp)
        clear hg HS
        go_wp2_with fail
        refine HGk.out.mono ?_
        rintro e w4 ⟨v, rfl, hw4⟩
        go_wp2
        exact ⟨⟨k + 1, m, hk1, by go_num, rfl, by omega, HN, hwr.trans hw4⟩, by simp [intOf]; omega⟩
      · rw [hg] at HGk HS
        have HN : Hid (m + 1 = cntN (k + 1) (gainB rule sz vs)) := hide (by rw [HS.out, hm.out]; simp)
        clear hg HS
        go_wp2_with fail
        refine HGk.out.mono ?_
        rintro e w4 ⟨v, rfl, hw4⟩
        go_wp2
        exact ⟨⟨k + 1, m + 1, hk1, by go_num, by go_num, by omega, HN, hwr.trans hw4⟩, by simp [intOf]; omega⟩
    · have hkn : k = vs.length := by omega
      have HF : Hid (gcntO rule sz vs = m) := hide (by unfold gcntO; rw [hm.out, hkn])
      go_wp2
      go_ret
      exact ⟨ret_int HF.out.symm, hw.trans hwr⟩

end Go.Proofs.YtilcdnkkabmbfaaGreat
