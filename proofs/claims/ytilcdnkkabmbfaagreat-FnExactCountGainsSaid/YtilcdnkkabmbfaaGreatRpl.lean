/- A voter's best answer, of the program and of the spec. -/
import Derived.Test.YtilcdnkkabmbfaaGreatSetS
import Derived.Test.YtilcdnkkabmbfaaGreatGainP
namespace Go.Proofs.YtilcdnkkabmbfaaGreat
open Go.RowKit

set_option maxRecDepth 100000 in
theorem prof_ok_at {sz : Int} {vs : List Vt} (h : profOk sz vs = true) {k : Nat} {x : Vt} (hx : vs[k]? = some x) : rkOk sz x.1 = true := prof_rk h hx

set_option maxRecDepth 100000 in
set_option maxHeartbeats 8000000 in
theorem bst_impl (w : World) (rule sz : Int) (a : Option Addr) (c : Nat) (vs : List Vt) (k : Int) (hR : RdV w a vs) :
    Calls Tryz.prog 74 #[.int .i64 rule, .agg #[.int .i64 sz, .slice a vs.length c], .int .i64 k] w fun e w' => ∃ v, e = .returned (.tuple #[v, .bool (gnB rule sz vs k)]) ∧ OwnI w' w.heap.size v (bstO rule sz vs k) ∧ Ext w w' := by
  have q0 := new0 w (.int .i64 sz) [.slice a vs.length c] 29
  have q1 := new1 w (.int .i64 sz) (.slice a vs.length c) [] 29
  have HG : Hid (∀ w', Ext w w' → Calls Tryz.prog 133 #[.int .i64 rule, .agg #[.int .i64 sz, .slice a vs.length c], .int .i64 k] w' fun e w'' => e = .returned (.bool (gnB rule sz vs k)) ∧ Ext w' w'') := fun w' hw' => gn_impl w' rule sz k a c vs (hR.ext hw')
  cases hg : gnB rule sz vs k
  · have HF : Hid (bstO rule sz vs k = []) := hide (by unfold bstO; rw [hg]; rfl)
    rw [hg] at HG
    clear hg
    go_enter Tryz.func74, Tryz.ntmps74
    go_wp2_with (go_at_call 133; refine (HG.out _ (by repeat (first | exact Ext.refl _ | assumption | refine Ext.alloc ?_ _ | refine Ext.drew ?_ | refine Ext.trans ?_ (by assumption)))).mono ?_; rintro e w1 ⟨rfl, hw1⟩; have q0 := Ext.keep (w' := w1) (by repeat (first | exact Ext.refl _ | assumption | refine Ext.alloc ?_ _ | refine Ext.drew ?_ | refine Ext.trans ?_ (by assumption))) q0; have q1 := Ext.keep (w' := w1) (by repeat (first | exact Ext.refl _ | assumption | refine Ext.alloc ?_ _ | refine Ext.drew ?_ | refine Ext.trans ?_ (by assumption))) q1)
    go_ret2
    exact ⟨_, rfl, by rw [HF.out]; exact OwnI.nil _ _, (by repeat (first | exact Ext.refl _ | assumption | refine Ext.alloc ?_ _ | refine Ext.drew ?_ | refine Ext.trans ?_ (by assumption)))⟩
  obtain ⟨n, kn, x, rfl, rfl, h0, n4, r1, r2, hx⟩ := gn_ok hg
  have hsz := prof_size h0
  have n1 : 1 ≤ n := by omega
  have n2 : n ≤ 5 := by omega
  have hk := prof_ok_at h0 hx
  have htl := (rk_len hk).1
  have HV : Hid (bstO rule n vs kn = (repT (gnW rule n vs kn) x.1 (allO n) (allO n).length).1) := hide (by unfold bstO repO; rw [if_pos hg, Int.toNat_natCast, Int.toNat_natCast, show vs.getD kn ([], 0) = x by simp [List.getD, hx]])
  rw [hg] at HG
  have HWY : Hid (∀ w', Ext w w' → Calls Tryz.prog 134 #[.int .i64 rule, .agg #[.int .i64 n, .slice a vs.length c], .int .i64 kn] w' fun e w'' => ∃ g V, e = .returned (.slice (some ⟨g, 0, none⟩) n n) ∧ BlkF w'' g n V ∧ WaysOk w'' w'.heap.size n (wayO (gnW rule n vs kn) (allO n)) V ∧ w'.heap.size ≤ g ∧ Ext w' w'') := fun w' hw' => ways_impl w' rule n a c kn vs x hx (hR.ext hw') h0 r1 r2
  have hW : Hid (∀ r ∈ allO n, ∃ y : Nat, y < n ∧ gnW rule n vs kn r = y) := fun r hr => gnW_lt h0 r1 r2 hx ((allO_mem n1 n2).1 hr)
  have HNE := hide (allO_pos n1 n2)
  have hne : ∀ (W : World) (a : Addr) (n c : Nat), (binOp .neq 36 (.slice (some a) n c) (.slice none 0 0)).run Tryz.prog W = .ok (.bool true) W := fun W a n c => run_neq_some W a n c Tryz.underlying36
  have hnn : ∀ (W : World), (binOp .neq 36 (.slice none 0 0) (.slice none 0 0)).run Tryz.prog W = .ok (.bool false) W := fun W => run_neq_none W 0 0 Tryz.underlying36
  have HKV : Hid (∀ j (y : Int), x.1[j]? = some y → ∃ d : Nat, d < n ∧ y = d) := hide (fun j y hj => by
    have h := rk_mem hk (List.mem_of_getElem? hj)
    exact ⟨y.toNat, by omega, by omega⟩)
  have HK := hide hk
  have hkl := lt_of_at hx
  obtain ⟨b, off, a', c', rfl, c0, c1, hc', hRx⟩ := hR.at_ hx
  clear hk hg h0 r1 r2 hx
  generalize gnW rule n vs kn = W at HWY hW HV
  generalize bstO rule n vs kn = ro at HV ⊢
  generalize allO n = rows at HWY hW HNE HV
  have q0 := new0 w (.int .i64 n) [.slice (some ⟨b, off, none⟩) vs.length c] 29
  have q1 := new1 w (.int .i64 n) (.slice (some ⟨b, off, none⟩) vs.length c) [] 29
  go_enter Tryz.func74, Tryz.ntmps74
  go_wp2_with (go_at_call 133; refine (HG.out _ (by repeat (first | exact Ext.refl _ | assumption | refine Ext.alloc ?_ _ | refine Ext.drew ?_ | refine Ext.trans ?_ (by assumption)))).mono ?_; rintro e w1 ⟨rfl, hw1⟩; have q0 := Ext.keep (w' := w1) (by repeat (first | exact Ext.refl _ | assumption | refine Ext.alloc ?_ _ | refine Ext.drew ?_ | refine Ext.trans ?_ (by assumption))) q0; have q1 := Ext.keep (w' := w1) (by repeat (first | exact Ext.refl _ | assumption | refine Ext.alloc ?_ _ | refine Ext.drew ?_ | refine Ext.trans ?_ (by assumption))) q1)
  have hw : Ext w w1 := (by repeat (first | exact Ext.refl _ | assumption | refine Ext.alloc ?_ _ | refine Ext.drew ?_ | refine Ext.trans ?_ (by assumption)))
  obtain ⟨wb, hwb⟩ : ∃ wb : World, wb = w1 := ⟨_, rfl⟩
  subst hwb
  have hwz := hw.size
  refine (HWY.out _ hw).mono ?_
  rintro e w2 ⟨g, V, rfl, hB, hwy, hgb, hw2⟩
  have hww := hw.trans hw2
  have Q0 := hw2.keep q0
  have Q1 := hw2.keep q1
  have c0 := hww.keep c0
  have c1 := hww.keep c1
  have hRx := hRx.ext hww
  have HWK := hide hwy
  clear hwy HWY HG hw1
  go_wp2
  go_loopw [10, 27] (fun _ i wr => ∃ m : Nat, m ≤ x.1.length ∧ i = .int .i64 m ∧ Hid (∀ j, j < m → ∀ b, x.1[j]? = some b → wayO W rows b = none) ∧ Ext w2 wr) (fun _ i _ => x.1.length - (intOf i).toNat)
  case atStart => exact ⟨0, Nat.zero_le _, rfl, hide (fun j hj => by omega), Ext.refl _⟩
  case round =>
    obtain ⟨m, hm, rfl, hno, hwr⟩ := hrel
    by_cases hmt : m < x.1.length
    · obtain ⟨y, hy⟩ := at_of_lt hmt
      obtain ⟨bb, bo, rfl, d0⟩ := (hRx.ext hwr).at_ hy
      obtain ⟨d, hd, rfl⟩ := HKV.out m y hy
      have HY := hide hy
      have cm := (hB.ext hwr).cell d hd
      have hm1 : m + 1 ≤ x.1.length := by omega
      clear hy
      rcases HWK.out d hd with ⟨hq, hV⟩ | ⟨r, g', c', hq, hV, _, hO⟩
      · rw [hV] at cm
        have HQ := hide hq
        clear hq hV
        go_wp2
        refine ⟨⟨m + 1, hm1, by go_num, hide (fun j hj b hb => ?_), hwr⟩, by simp [intOf]; omega⟩
        by_cases e : j = m
        · subst e
          have := HY.out
          rw [this] at hb
          injection hb with hb
          subst hb
          exact HQ.out
        · exact hno.out j (by omega) b hb
      · have hro := best_at hW.out HNE.out HK.out HY.out hno.out hq
        have HRL : Hid (r = ro) := hide (by rw [HV.out, hro])
        have HO := hide hO
        rw [hV] at cm
        have hOV := hide hV
        clear hq hV hro hO
        go_wp2
        go_ret2
        have h := HO.out
        rw [hOV.out, HRL.out] at h
        have hl : r.length = ro.length := by rw [HRL.out]
        exact ⟨_, rfl, by rw [hl]; exact (h.ext hwr).base hwz, hww.trans hwr⟩
    · exact (best_end hW.out HNE.out HK.out (fun j hj => hno.out j (by omega))).elim

end Go.Proofs.YtilcdnkkabmbfaaGreat
