/- Whether nobody has a better answer, of the program and of the spec. -/
import Derived.Test.YtblkbdfndbpndaaGreatRea
import Derived.Test.YtblkbdfndbpndaaGreatSetP
namespace Go.Proofs.YtblkbdfndbpndaaGreat
open Go.RowKit

set_option maxRecDepth 100000 in
set_option maxHeartbeats 8000000 in
theorem bet_impl (w : World) (rule : Int) (n : Nat) (a ar : Option Addr) (c cr k : Nat) (vs : List Vt) (x : Vt) (truth : List Int) (hx : vs[k]? = some x) (hR : RdV w a vs) (hRt : RdI w ar truth) (hk : rkOk n truth = true) (h0 : profOk n vs = true) (r1 : 1 ≤ rule) (r2 : rule ≤ 13) :
    Calls Tryz.prog 93 #[.int .i64 rule, .agg #[.int .i64 n, .slice a vs.length c], .int .i64 k, .slice ar truth.length cr] w fun e w' => ∃ v, e = .returned v ∧ ((betB rule n vs k truth = true ∧ ∃ g c', v = .slice (some ⟨g, 0, none⟩) (repO (gnW rule n vs k) truth n).1.length c' ∧ OwnI w' w.heap.size v (repO (gnW rule n vs k) truth n).1) ∨ (betB rule n vs k truth = false ∧ v = .slice none 0 0)) ∧ Ext w w' := by
  have hsz := prof_size h0
  have n1 : 1 ≤ n := by omega
  have n2 : n ≤ 5 := by omega
  have htl := (rk_len hk).1
  have q0 := new0 w (.int .i64 n) [.slice a vs.length c] 29
  have q1 := new1 w (.int .i64 n) (.slice a vs.length c) [] 29
  have HWB : Hid (∀ w', Ext w w' → Calls Tryz.prog 18 #[.int .i64 rule, .agg #[.int .i64 n, .slice a vs.length c]] w' fun e w'' => e = .returned (.int .i64 (winB rule n vs)) ∧ Ext w' w'') := fun w' hw' => winb_impl w' rule n a c vs (hR.ext hw')
  have HWY : Hid (∀ w', Ext w w' → Calls Tryz.prog 97 #[.int .i64 rule, .agg #[.int .i64 n, .slice a vs.length c], .int .i64 k] w' fun e w'' => ∃ g V, e = .returned (.slice (some ⟨g, 0, none⟩) n n) ∧ BlkF w'' g n V ∧ WaysOk w'' w'.heap.size n (wayO (gnW rule n vs k) (allO n)) V ∧ w'.heap.size ≤ g ∧ Ext w' w'') := fun w' hw' => ways_impl w' rule n a c k vs x hx (hR.ext hw') h0 r1 r2
  have hW : Hid (∀ r ∈ allO n, ∃ y : Nat, y < n ∧ gnW rule n vs k r = y) := fun r hr => gnW_lt h0 r1 r2 hx ((allO_mem n1 n2).1 hr)
  have HNE := hide (allO_pos n1 n2)
  have HBT : Hid (betB rule n vs k truth = prefB truth (repT (gnW rule n vs k) truth (allO n) (allO n).length).2 (winB rule n vs)) := hide (by unfold betB repO; rw [Int.toNat_natCast])
  have HRO : Hid (repO (gnW rule n vs k) truth n = repT (gnW rule n vs k) truth (allO n) (allO n).length) := rfl
  have hne : ∀ (W : World) (a : Addr) (n c : Nat), (binOp .neq 33 (.slice (some a) n c) (.slice none 0 0)).run Tryz.prog W = .ok (.bool true) W := fun W a n c => run_neq_some W a n c Tryz.underlying33
  have hnn : ∀ (W : World), (binOp .neq 33 (.slice none 0 0) (.slice none 0 0)).run Tryz.prog W = .ok (.bool false) W := fun W => run_neq_none W 0 0 Tryz.underlying33
  clear hx h0 r1 r2
  generalize gnW rule n vs k = W at HWY hW HBT HRO ⊢
  generalize winB rule n vs = win at HWB HBT
  generalize betB rule n vs k truth = bt at HBT ⊢
  generalize repO W truth n = ro at HRO ⊢
  generalize allO n = rows at HWY hW HNE HBT HRO
  have HV : Hid (∀ j (y : Int), truth[j]? = some y → ∃ d : Nat, d < n ∧ y = d) := hide (fun j y hj => by
    have h := rk_mem hk (List.mem_of_getElem? hj)
    exact ⟨y.toNat, by omega, by omega⟩)
  have HK := hide hk
  clear hk
  go_enter Tryz.func93, Tryz.ntmps93
  go_wp2_with fail
  have hw : Ext w (w.alloc (.cells #[.int .i64 n, .slice a vs.length c] 29)) := Ext.new w _
  have hwz := hw.size
  refine (HWY.out _ hw).mono ?_
  rintro e w2 ⟨g, V, rfl, hB, hwy, hgb, hw2⟩
  have hww := hw.trans hw2
  have hRt := hRt.ext hww
  have Q0 := hw2.keep q0
  have Q1 := hw2.keep q1
  have HWK := hide hwy
  clear hwy HWY
  go_wp2_with fail
  go_loopw [11, 18] (fun _ i wr => ∃ m : Nat, m ≤ truth.length ∧ i = .int .i64 m ∧ Hid (∀ j, j < m → ∀ b, truth[j]? = some b → wayO W rows b = none) ∧ Ext w2 wr) (fun _ i _ => truth.length - (intOf i).toNat)
  case atStart => exact ⟨0, Nat.zero_le _, rfl, hide (fun j hj => by omega), Ext.refl _⟩
  case round =>
    obtain ⟨m, hm, rfl, hno, hwr⟩ := hrel
    by_cases hmt : m < truth.length
    · obtain ⟨y, hy⟩ := at_of_lt hmt
      obtain ⟨b, off, rfl, c0⟩ := (hRt.ext hwr).at_ hy
      obtain ⟨d, hd, rfl⟩ := HV.out m y hy
      have HY := hide hy
      have cm := (hB.ext hwr).cell d hd
      have hm1 : m + 1 ≤ truth.length := by omega
      have q0 := hwr.keep Q0
      have q1 := hwr.keep Q1
      clear hy
      rcases HWK.out d hd with ⟨hq, hV⟩ | ⟨r, g', c', hq, hV, _, hO⟩
      · rw [hV] at cm
        have HQ := hide hq
        clear hq hV
        go_wp2
        refine ⟨⟨m + 1, hm1, by go_num, hide (fun j hj b hb => ?_), hwr⟩, by simp [intOf]; omega⟩
        by_cases e : j = m
        · subst e
          have := HY.out
          rw [this] at hb
          injection hb with hb
          subst hb
          exact HQ.out
        · exact hno.out j (by omega) b hb
      · have hro := best_at hW.out HNE.out HK.out HY.out hno.out hq
        rw [← HRO.out] at hro
        have HBT2 : Hid (bt = prefB truth (d : Int) win) := hide (by rw [HBT.out, ← HRO.out, hro])
        have HRL : Hid (r = ro.1) := hide (by rw [hro])
        have HO := hide hO
        rw [hV] at cm
        have hOV := hide hV
        clear hq hV hro hO
        have hlr : r.length = ro.1.length := by rw [HRL.out]
        rw [hlr] at cm
        clear hlr
        cases hbt : prefB truth (d : Int) win
        · have HF := hide (HBT2.out.trans hbt)
          go_wp2_with (first | (go_at_call 18; refine (HWB.out _ (by repeat (first | exact Ext.refl _ | assumption | refine Ext.alloc ?_ _ | refine Ext.drew ?_ | refine Ext.trans ?_ (by assumption)))).mono ?_; rintro e w1 ⟨rfl, hw1⟩; have q0 := Ext.keep (w' := w1) (by repeat (first | exact Ext.refl _ | assumption | refine Ext.alloc ?_ _ | refine Ext.drew ?_ | refine Ext.trans ?_ (by assumption))) q0; have q1 := Ext.keep (w' := w1) (by repeat (first | exact Ext.refl _ | assumption | refine Ext.alloc ?_ _ | refine Ext.drew ?_ | refine Ext.trans ?_ (by assumption))) q1; have cm := Ext.keep (w' := w1) (by repeat (first | exact Ext.refl _ | assumption | refine Ext.alloc ?_ _ | refine Ext.drew ?_ | refine Ext.trans ?_ (by assumption))) cm) | (go_at_call 77; refine (pref_impl _ _ _ _ _ _ (hRt.ext (by repeat (first | exact Ext.refl _ | assumption | refine Ext.alloc ?_ _ | refine Ext.drew ?_ | refine Ext.trans ?_ (by assumption)))) (by omega)).mono ?_; rintro e w1 ⟨rfl, hw1⟩; have q0 := Ext.keep (w' := w1) (by repeat (first | exact Ext.refl _ | assumption | refine Ext.alloc ?_ _ | refine Ext.drew ?_ | refine Ext.trans ?_ (by assumption))) q0; have q1 := Ext.keep (w' := w1) (by repeat (first | exact Ext.refl _ | assumption | refine Ext.alloc ?_ _ | refine Ext.drew ?_ | refine Ext.trans ?_ (by assumption))) q1; have cm := Ext.keep (w' := w1) (by repeat (first | exact Ext.refl _ | assumption | refine Ext.alloc ?_ _ | refine Ext.drew ?_ | refine Ext.trans ?_ (by assumption))) cm))
          go_ret
          exact ⟨_, rfl, .inr ⟨HF.out, rfl⟩, (by repeat (first | exact Ext.refl _ | assumption | refine Ext.alloc ?_ _ | refine Ext.drew ?_ | refine Ext.trans ?_ (by assumption)))⟩
        · have HF := hide (HBT2.out.trans hbt)
          go_wp2_with (first | (go_at_call 18; refine (HWB.out _ (by repeat (first | exact Ext.refl _ | assumption | refine Ext.alloc ?_ _ | refine Ext.drew ?_ | refine Ext.trans ?_ (by assumption)))).mono ?_; rintro e w1 ⟨rfl, hw1⟩; have q0 := Ext.keep (w' := w1) (by repeat (first | exact Ext.refl _ | assumption | refine Ext.alloc ?_ _ | refine Ext.drew ?_ | refine Ext.trans ?_ (by assumption))) q0; have q1 := Ext.keep (w' := w1) (by repeat (first | exact Ext.refl _ | assumption | refine Ext.alloc ?_ _ | refine Ext.drew ?_ | refine Ext.trans ?_ (by assumption))) q1; have cm := Ext.keep (w' := w1) (by repeat (first | exact Ext.refl _ | assumption | refine Ext.alloc ?_ _ | refine Ext.drew ?_ | refine Ext.trans ?_ (by assumption))) cm) | (go_at_call 77; refine (pref_impl _ _ _ _ _ _ (hRt.ext (by repeat (first | exact Ext.refl _ | assumption | refine Ext.alloc ?_ _ | refine Ext.drew ?_ | refine Ext.trans ?_ (by assumption)))) (by omega)).mono ?_; rintro e w1 ⟨rfl, hw1⟩; have q0 := Ext.keep (w' := w1) (by repeat (first | exact Ext.refl _ | assumption | refine Ext.alloc ?_ _ | refine Ext.drew ?_ | refine Ext.trans ?_ (by assumption))) q0; have q1 := Ext.keep (w' := w1) (by repeat (first | exact Ext.refl _ | assumption | refine Ext.alloc ?_ _ | refine Ext.drew ?_ | refine Ext.trans ?_ (by assumption))) q1; have cm := Ext.keep (w' := w1) (by repeat (first | exact Ext.refl _ | assumption | refine Ext.alloc ?_ _ | refine Ext.drew ?_ | refine Ext.trans ?_ (by assumption))) cm))
          go_ret
          have h := HO.out
          rw [hOV.out, HRL.out] at h
          exact ⟨_, rfl, .inl ⟨HF.out, g', c', rfl, (h.ext (show Ext w2 w1 from (by repeat (first | exact Ext.refl _ | assumption | refine Ext.alloc ?_ _ | refine Ext.drew ?_ | refine Ext.trans ?_ (by assumption))))).base (hwz)⟩, (by repeat (first | exact Ext.refl _ | assumption | refine Ext.alloc ?_ _ | refine Ext.drew ?_ | refine Ext.trans ?_ (by assumption)))⟩
    · exact (best_end hW.out HNE.out HK.out (fun j hj => hno.out j (by omega))).elim

end Go.Proofs.YtblkbdfndbpndaaGreat
