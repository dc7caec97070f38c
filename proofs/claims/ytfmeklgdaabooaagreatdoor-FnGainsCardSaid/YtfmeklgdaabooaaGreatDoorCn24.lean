/- A voter's best answer, of the program and of the spec. Who gains by a false vote, of the program and of the spec. FirstGain and CountGains, of the program and of the spec. What FnGains says of a profile, told for its walk (plain law). Who gains by a false vote, and by which ranking, of the program. A round of best replies, of the program. -/
import Derived.Test.YtfmeklgdaabooaaGreatDoorCn23
import Derived.Test.YtfmeklgdaabooaaGreatDoorCn21
import Derived.Test.YtfmeklgdaabooaaGreatDoorCn22
namespace Go.Proofs.YtfmeklgdaabooaaGreatDoor
open Go.RowKit

set_option maxRecDepth 100000 in
theorem prof_ok_at {sz : Int} {vs : List Vt} (h : profOk sz vs = true) {k : Nat} {x : Vt} (hx : vs[k]? = some x) : rkOk sz x.1 = true := prof_rk h hx

set_option maxRecDepth 100000 in
set_option maxHeartbeats 8000000 in
theorem bst_impl (w : World) (rule sz : Int) (a : Option Addr) (c : Nat) (vs : List Vt) (k : Int) (hR : RdV w a vs) :
    Calls Tryz.prog 7 #[.int .i64 rule, .agg #[.int .i64 sz, .slice a vs.length c], .int .i64 k] w fun e w' => ∃ v, e = .returned (.tuple #[v, .bool (gnB rule sz vs k)]) ∧ OwnI w' w.heap.size v (bstO rule sz vs k) ∧ Ext w w' := by
  have q0 := new0 w (.int .i64 sz) [.slice a vs.length c] 26
  have q1 := new1 w (.int .i64 sz) (.slice a vs.length c) [] 26
  have HG : Hid (∀ w', Ext w w' → Calls Tryz.prog 23 #[.int .i64 rule, .agg #[.int .i64 sz, .slice a vs.length c], .int .i64 k] w' fun e w'' => e = .returned (.bool (gnB rule sz vs k)) ∧ Ext w' w'') := fun w' hw' => gn_impl w' rule sz k a c vs (hR.ext hw')
  cases hg : gnB rule sz vs k
  · have HF : Hid (bstO rule sz vs k = []) := hide (by unfold bstO; rw [hg]; rfl)
    rw [hg] at HG
    clear hg
    go_enter Tryz.func7, Tryz.ntmps7
    go_wp2_with (go_at_call 23; refine (HG.out _ (by repeat (first | exact Ext.refl _ | assumption | refine Ext.alloc ?_ _ | refine Ext.drew ?_ | refine Ext.trans ?_ (by assumption)))).mono ?_; rintro e w1 ⟨rfl, hw1⟩; have q0 := Ext.keep (w' := w1) (by repeat (first | exact Ext.refl _ | assumption | refine Ext.alloc ?_ _ | refine Ext.drew ?_ | refine Ext.trans ?_ (by assumption))) q0; have q1 := Ext.keep (w' := w1) (by repeat (first | exact Ext.refl _ | assumption | refine Ext.alloc ?_ _ | refine Ext.drew ?_ | refine Ext.trans ?_ (by assumption))) q1)
    go_ret2
    exact ⟨_, rfl, by rw [HF.out]; exact OwnI.nil _ _, (by repeat (first | exact Ext.refl _ | assumption | refine Ext.alloc ?_ _ | refine Ext.drew ?_ | refine Ext.trans ?_ (by assumption)))⟩
  obtain ⟨n, kn, x, rfl, rfl, h0, n4, r1, r2, hx⟩ := gn_ok hg
  have hsz := prof_size h0
  have n1 : 1 ≤ n := by omega
  have n2 : n ≤ 5 := by omega
  have hk := prof_ok_at h0 hx
  have htl := (rk_len hk).1
  have HV : Hid (bstO rule n vs kn = (repT (gnW rule n vs kn) x.1 (allO n) (allO n).length).1) := hide (by unfold bstO repO; rw [if_pos hg, Int.toNat_natCast, Int.toNat_natCast, show vs.getD kn ([], 0) = x by simp [List.getD, hx]])
  rw [hg] at HG
  have HWY : Hid (∀ w', Ext w w' → Calls Tryz.prog 24 #[.int .i64 rule, .agg #[.int .i64 n, .slice a vs.length c], .int .i64 kn] w' fun e w'' => ∃ g V, e = .returned (.slice (some ⟨g, 0, none⟩) n n) ∧ BlkF w'' g n V ∧ WaysOk w'' w'.heap.size n (wayO (gnW rule n vs kn) (allO n)) V ∧ w'.heap.size ≤ g ∧ Ext w' w'') := fun w' hw' => ways_impl w' rule n a c kn vs x hx (hR.ext hw') h0 r1 r2
  have hW : Hid (∀ r ∈ allO n, ∃ y : Nat, y < n ∧ gnW rule n vs kn r = y) := fun r hr => gnW_lt h0 r1 r2 hx ((allO_mem n1 n2).1 hr)
  have HNE := hide (allO_pos n1 n2)
  have hne : ∀ (W : World) (a : Addr) (n c : Nat), (binOp .neq 28 (.slice (some a) n c) (.slice none 0 0)).run Tryz.prog W = .ok (.bool true) W := fun W a n c => run_neq_some W a n c Tryz.underlying28
  have hnn : ∀ (W : World), (binOp .neq 28 (.slice none 0 0) (.slice none 0 0)).run Tryz.prog W = .ok (.bool false) W := fun W => run_neq_none W 0 0 Tryz.underlying28
  have HKV : Hid (∀ j (y : Int), x.1[j]? = some y → ∃ d : Nat, d < n ∧ y = d) := hide (fun j y hj => by
    have h := rk_mem hk (List.mem_of_getElem? hj)
    exact ⟨y.toNat, by omega, by omega⟩)
  have HK := hide hk
  have hkl := lt_of_at hx
  obtain ⟨b, off, a', c', rfl, c0, c1, hc', hRx⟩ := hR.at_ hx
  clear hk hg h0 r1 r2 hx
  generalize gnW rule n vs kn = W at HWY hW HV
  generalize bstO rule n vs kn = ro at HV ⊢
  generalize allO n = rows at HWY hW HNE HV
  have q0 := new0 w (.int .i64 n) [.slice (some ⟨b, off, none⟩) vs.length c] 26
  have q1 := new1 w (.int .i64 n) (.slice (some ⟨b, off, none⟩) vs.length c) [] 26
  go_enter Tryz.func7, Tryz.ntmps7
  go_wp2_with (go_at_call 23; refine (HG.out _ (by repeat (first | exact Ext.refl _ | assumption | refine Ext.alloc ?_ _ | refine Ext.drew ?_ | refine Ext.trans ?_ (by assumption)))).mono ?_; rintro e w1 ⟨rfl, hw1⟩; have q0 := Ext.keep (w' := w1) (by repeat (first | exact Ext.refl _ | assumption | refine Ext.alloc ?_ _ | refine Ext.drew ?_ | refine Ext.trans ?_ (by assumption))) q0; have q1 := Ext.keep (w' := w1) (by repeat (first | exact Ext.refl _ | assumption | refine Ext.alloc ?_ _ | refine Ext.drew ?_ | refine Ext.trans ?_ (by assumption))) q1)
  have hw : Ext w w1 := (by repeat (first | exact Ext.refl _ | assumption | refine Ext.alloc ?_ _ | refine Ext.drew ?_ | refine Ext.trans ?_ (by assumption)))
  obtain ⟨wb, hwb⟩ : ∃ wb : World, wb = w1 := ⟨_, rfl⟩
  subst hwb
  have hwz := hw.size
  refine (HWY.out _ hw).mono ?_
  rintro e w2 ⟨g, V, rfl, hB, hwy, hgb, hw2⟩
  have hww := hw.trans hw2
  have Q0 := hw2.keep q0
  have Q1 := hw2.keep q1
  have c0 := hww.keep c0
  have c1 := hww.keep c1
  have hRx := hRx.ext hww
  have HWK := hide hwy
  clear hwy HWY HG hw1
  go_wp2
  go_loopw [10, 27] (fun _ i wr => ∃ m : Nat, m ≤ x.1.length ∧ i = .int .i64 m ∧ Hid (∀ j, j < m → ∀ b, x.1[j]? = some b → wayO W rows b = none) ∧ Ext w2 wr) (fun _ i _ => x.1.length - (intOf i).toNat)
  case atStart => exact ⟨0, Nat.zero_le _, rfl, hide (fun j hj => by omega), Ext.refl _⟩
  case round =>
    obtain ⟨m, hm, rfl, hno, hwr⟩ := hrel
    by_cases hmt : m < x.1.length
    · obtain ⟨y, hy⟩ := at_of_lt hmt
      obtain ⟨bb, bo, rfl, d0⟩ := (hRx.ext hwr).at_ hy
      obtain ⟨d, hd, rfl⟩ := HKV.out m y hy
      have HY := hide hy
      have cm := (hB.ext hwr).cell d hd
      have hm1 : m + 1 ≤ x.1.length := by omega
      clear hy
      rcases HWK.out d hd with ⟨hq, hV⟩ | ⟨r, g', c', hq, hV, _, hO⟩
      · rw [hV] at cm
        have HQ := hide hq
        clear hq hV
        go_wp2
        refine ⟨⟨m + 1, hm1, by go_num, hide (fun j hj b hb => ?_), hwr⟩, by simp [intOf]; omega⟩
        by_cases e : j = m
        · subst e
          have := HY.out
          rw [this] at hb
          injection hb with hb
          subst hb
          exact HQ.out
        · exact hno.out j (by omega) b hb
      · have hro := best_at hW.out HNE.out HK.out HY.out hno.out hq
        have HRL : Hid (r = ro) := hide (by rw [HV.out, hro])
        have HO := hide hO
        rw [hV] at cm
        have hOV := hide hV
        clear hq hV hro hO
        go_wp2
        go_ret2
        have h := HO.out
        rw [hOV.out, HRL.out] at h
        have hl : r.length = ro.length := by rw [HRL.out]
        exact ⟨_, rfl, by rw [hl]; exact (h.ext hwr).base hwz, hww.trans hwr⟩
    · exact (best_end hW.out HNE.out HK.out (fun j hj => hno.out j (by omega))).elim

set_option maxRecDepth 100000 in
set_option maxHeartbeats 8000000 in
theorem gby_impl (w : World) (rule sz : Int) (a : Option Addr) (c : Nat) (vs : List Vt) (k : Nat) (hR : RdV w a vs) :
    Calls Tryz.prog 11 #[.int .i64 rule, .agg #[.int .i64 sz, .slice a vs.length c], .int .i64 k] w fun e w' => ∃ v, e = .returned (.tuple #[v, .bool (gainB rule sz vs k)]) ∧ Ext w w' := by
  have HBS := hide (fun w' (hw' : Ext w w') => bst_impl w' rule sz a c vs k (hR.ext hw'))
  have q0 := new0 w (.int .i64 sz) [.slice a vs.length c] 26
  have q1 := new1 w (.int .i64 sz) (.slice a vs.length c) [] 26
  have hw := Ext.new w (.cells #[.int .i64 sz, .slice a vs.length c] 26)
  cases hg : gnB rule sz vs k
  · have HF : Hid (gainB rule sz vs k = false) := hide (by unfold gainB; rw [hg]; rfl)
    rw [hg] at HBS
    clear hg
    rw [HF.out]
    go_enter Tryz.func11, Tryz.ntmps11
    go_wp2_with fail
    refine (HBS.out _ hw).mono ?_
    rintro e w1 ⟨v, rfl, hv, hw1⟩
    go_wp2
    go_ret2
    exact ⟨_, rfl, hw.trans hw1⟩
  rw [hg] at HBS
  obtain ⟨n, kn, x, rfl, hkk, h0, n4, r1, r2, hx⟩ := gn_ok hg
  obtain rfl : k = kn := by omega
  have hk := prof_ok_at h0 hx
  have hxl := (rk_len hk).2
  obtain ⟨hrk, hgw⟩ := repO_ok x.1 h0 r1 r2 hx
  have hgd : vs.getD k ([], 0) = x := by simp [List.getD, hx]
  have hbo : bstO rule n vs k = (repO (gnW rule n vs k) x.1 n).1 := by unfold bstO; rw [if_pos hg, Int.toNat_natCast, Int.toNat_natCast, hgd]
  have hga : gainB rule n vs k = prefB x.1 (winB rule n (vs.set k ((repO (gnW rule n vs k) x.1 n).1, x.2))) (winB rule n vs) := by
    unfold gainB betB
    rw [hg, Bool.true_and, hgd, Int.toNat_natCast, ← hgw]
    unfold gnW
    rw [hgd]
  rw [hbo] at HBS
  rw [hga]
  generalize (repO (gnW rule n vs k) x.1 n).1 = r at HBS hrk ⊢
  have HWR : Hid (∀ w' ar cr, Ext w w' → RdI w' ar r → r.length ≤ cr → Calls Tryz.prog 8 #[.agg #[.int .i64 n, .slice a vs.length c], .int .i64 k, .slice ar r.length cr] w' fun e w'' => ∃ a' c', e = .returned (.tuple #[.agg #[.int .i64 n, .slice a' vs.length c'], .bool true]) ∧ RdV w'' a' (vs.set k (r, x.2)) ∧ Ext w' w'') := fun w' ar cr hw' hRr hcr => withR_impl w' n a ar c cr k vs r x hx (hR.ext hw') hRr h0 hrk hcr
  have HWQ : Hid (∀ w' a3 c3, RdV w' a3 (vs.set k (r, x.2)) → Calls Tryz.prog 9 #[.int .i64 rule, .agg #[.int .i64 n, .slice a3 vs.length c3]] w' fun e w'' => e = .returned (.int .i64 (winB rule n (vs.set k (r, x.2)))) ∧ Ext w' w'') := fun w' a3 c3 h3 => by
    have h := winb_impl w' rule n a3 c3 _ h3
    rw [List.length_set] at h
    exact h
  have HWP : Hid (∀ w', Ext w w' → Calls Tryz.prog 9 #[.int .i64 rule, .agg #[.int .i64 n, .slice a vs.length c]] w' fun e w'' => e = .returned (.int .i64 (winB rule n vs)) ∧ Ext w' w'') := fun w' hw' => winb_impl w' rule n a c vs (hR.ext hw')
  have hkl := lt_of_at hx
  obtain ⟨b, off, a', c', rfl, c0, c1, hc', hRx⟩ := hR.at_ hx
  generalize winB rule n (vs.set k (r, x.2)) = y1 at HWQ ⊢
  generalize winB rule n vs = y2 at HWP ⊢
  have HPF : Hid (∀ w', Ext w w' → Calls Tryz.prog 10 #[.slice a' x.1.length c', .int .i64 y1, .int .i64 y2] w' fun e w'' => e = .returned (.bool (prefB x.1 y1 y2)) ∧ Ext w' w'') := fun w' hw' => pref_impl w' a' c' x.1 y1 y2 (hRx.ext hw') (by omega)
  clear hg hga hbo hgw hgd h0 r1 r2 hx hk hrk hkk
  have q0 := new0 w (.int .i64 n) [.slice (some ⟨b, off, none⟩) vs.length c] 26
  have q1 := new1 w (.int .i64 n) (.slice (some ⟨b, off, none⟩) vs.length c) [] 26
  have hw := Ext.new w (.cells #[.int .i64 n, .slice (some ⟨b, off, none⟩) vs.length c] 26)
  cases hp : prefB x.1 y1 y2
  all_goals
    rw [hp] at HPF
    go_enter Tryz.func11, Tryz.ntmps11
    go_wp2_with fail
    refine (HBS.out _ hw).mono ?_
    rintro e w1 ⟨v, rfl, hv, hw1⟩
    obtain ⟨av, cv, rfl, hcv, hju⟩ := hv.wr
    have hRv := hv.rdI
    have hE1 := hw.trans hw1
    have q0 := hw1.keep q0
    have q1 := hw1.keep q1
    clear hju hv
    go_wp2_with fail
    refine (HWR.out _ av cv hE1 hRv hcv).mono ?_
    rintro e w2 ⟨a3, c3, rfl, hR3, hw2⟩
    have q0 := hw2.keep q0
    have q1 := hw2.keep q1
    have p0 := new0 w2 (.int .i64 n) [.slice a3 vs.length c3] 26
    have p1 := new1 w2 (.int .i64 n) (.slice a3 vs.length c3) [] 26
    have hN := Ext.new w2 (.cells #[.int .i64 n, .slice a3 vs.length c3] 26)
    have q0 := hN.keep q0
    have q1 := hN.keep q1
    have hR3 := hR3.ext hN
    have hE2 := hE1.trans (hw2.trans hN)
    have c0 := hE2.keep c0
    clear hRv hw1 hw2 hE1
    go_wp2_with fail
    refine wp_region_X (by kernel_rfl) (by kernel_rfl) ?_
    repeat' (refine wpX_stepQ (fun K hK => ?_)
             go_simp
             try (rw [if_neg (by intro h; simp [undef] at h)])
             try split
             all_goals
               first
               | (refine hK _ ?_
                  clear hK K)
               | (apply Exists.intro
                  refine ⟨fun wq hwq => ?_, hK _ ?_⟩
                  · have hcq := hwq.cellS
                    go_simp
                    first
                    | exact ⟨Ext.refl _, rfl⟩
                  clear hK K))
    refine wpX_stepQ (fun K hK => ?_)
    go_simp
    apply Exists.intro
    refine ⟨fun wq hwq => ?_, hK _ ?_⟩
    · have hcq := hwq.cellS
      go_simp
      exact ⟨Ext.refl _, HWQ.out wq a3 c3 (hR3.ext hwq)⟩
    clear hK K
    repeat' (refine wpX_stepQ (fun K hK => ?_)
             go_simp
             try (rw [if_neg (by intro h; simp [undef] at h)])
             try split
             all_goals
               first
               | (refine hK _ ?_
                  clear hK K)
               | (apply Exists.intro
                  refine ⟨fun wq hwq => ?_, hK _ ?_⟩
                  · have hcq := hwq.cellS
                    go_simp
                    first
                    | exact ⟨Ext.refl _, rfl⟩
                  clear hK K))
    refine wpX_stepQ (fun K hK => ?_)
    go_simp
    apply Exists.intro
    refine ⟨fun wq hwq => ?_, hK _ ?_⟩
    · have hcq := hwq.cellS
      go_simp
      exact ⟨Ext.refl _, HWP.out wq (hE2.trans hwq)⟩
    clear hK K
    repeat' (refine wpX_stepQ (fun K hK => ?_)
             go_simp
             try (rw [if_neg (by intro h; simp [undef] at h)])
             try split
             all_goals
               first
               | (refine hK _ ?_
                  clear hK K)
               | (apply Exists.intro
                  refine ⟨fun wq hwq => ?_, hK _ ?_⟩
                  · have hcq := hwq.cellS
                    go_simp
                    first
                    | exact ⟨Ext.refl _, rfl⟩
                    | exact ⟨Ext.refl _, HPF.out wq (hE2.trans hwq)⟩
                  clear hK K))
    refine wpX_nil (fun wz hwz => ?_)
    go_wp2
    go_ret2
    exact ⟨_, rfl, hE2.trans hwz⟩

noncomputable def gcntO (rule sz : Int) (vs : List Vt) : Int := ((cntN vs.length (gainB rule sz vs) : Nat) : Int)

set_option maxRecDepth 100000 in
set_option maxHeartbeats 4000000 in
theorem gfst_impl (w : World) (rule sz : Int) (a : Option Addr) (c : Nat) (vs : List Vt) (hl : vs.length ≤ 2000000) (hR : RdV w a vs) :
    Calls Tryz.prog 15 #[.int .i64 rule, .agg #[.int .i64 sz, .slice a vs.length c]] w fun e w' => e = .returned (.int .i64 (gfstO rule sz vs)) ∧ Ext w w' := by
  have q0 := new0 w (.int .i64 sz) [.slice a vs.length c] 26
  have q1 := new1 w (.int .i64 sz) (.slice a vs.length c) [] 26
  have hw := Ext.new w (.cells #[.int .i64 sz, .slice a vs.length c] 26)
  have HG : Hid (∀ w' (k : Nat), Ext w w' → Calls Tryz.prog 11 #[.int .i64 rule, .agg #[.int .i64 sz, .slice a vs.length c], .int .i64 k] w' fun e w'' => ∃ v, e = .returned (.tuple #[v, .bool (gainB rule sz vs k)]) ∧ Ext w' w'') := fun w' k hw' => gby_impl w' rule sz a c vs k (hR.ext hw')
  go_enter Tryz.func15, Tryz.ntmps15
  go_wp2_with fail
  generalize w.alloc (.cells #[.int .i64 sz, .slice a vs.length c] 26) = W0 at q0 q1 hw ⊢
  have Q0 := q0
  have Q1 := q1
  go_loopw [5, 6, 7, 11] (fun _ _ _ i wr => ∃ k : Nat, k ≤ vs.length ∧ i = .int .i64 k ∧ Hid (∀ j, j < k → gainB rule sz vs j = false) ∧ Ext W0 wr) (fun _ _ _ i _ => vs.length - (intOf i).toNat)
  case atStart => exact ⟨0, Nat.zero_le _, rfl, hide (fun j hj => by omega), Ext.refl _⟩
  case round =>
    obtain ⟨k, hk, rfl, hno, hwr⟩ := hrel
    have q0 := hwr.keep Q0
    have q1 := hwr.keep Q1
    by_cases hlt : k < vs.length
    · have HGk := hide (HG.out wr k (hw.trans hwr))
      have hk1 : k + 1 ≤ vs.length := by omega
      cases hg : gainB rule sz vs k
      · rw [hg] at HGk
        have HN : Hid (∀ j, j < k + 1 → gainB rule sz vs j = false) := hide (none_succ hno.out hg)
        clear hg
        go_wp2_with fail
        refine HGk.out.mono ?_
        rintro e w4 ⟨v, rfl, hw4⟩
        go_wp2
        exact ⟨⟨k + 1, hk1, by go_num, HN, hwr.trans hw4⟩, by simp [intOf]; omega⟩
      · rw [hg] at HGk
        have HF : Hid (gfstO rule sz vs = k) := hide (firstN_some hlt hno.out hg)
        clear hg
        go_wp2_with fail
        refine HGk.out.mono ?_
        rintro e w4 ⟨v, rfl, hw4⟩
        go_wp2
        go_ret
        exact ⟨ret_int HF.out.symm, hw.trans (hwr.trans hw4)⟩
    · have HF : Hid (gfstO rule sz vs = -1) := hide (firstN_none (fun j hj => hno.out j (by omega)))
      go_wp2
      go_ret
      exact ⟨ret_int HF.out.symm, hw.trans hwr⟩

set_option maxRecDepth 100000 in
set_option maxHeartbeats 4000000 in
theorem gcnt_impl (w : World) (rule sz : Int) (a : Option Addr) (c : Nat) (vs : List Vt) (hl : vs.length ≤ 2000000) (hR : RdV w a vs) :
    Calls Tryz.prog 14 #[.int .i64 rule, .agg #[.int .i64 sz, .slice a vs.length c]] w fun e w' => e = .returned (.int .i64 (gcntO rule sz vs)) ∧ Ext w w' := by
  have q0 := new0 w (.int .i64 sz) [.slice a vs.length c] 26
  have q1 := new1 w (.int .i64 sz) (.slice a vs.length c) [] 26
  have hw := Ext.new w (.cells #[.int .i64 sz, .slice a vs.length c] 26)
  have HG : Hid (∀ w' (k : Nat), Ext w w' → Calls Tryz.prog 11 #[.int .i64 rule, .agg #[.int .i64 sz, .slice a vs.length c], .int .i64 k] w' fun e w'' => ∃ v, e = .returned (.tuple #[v, .bool (gainB rule sz vs k)]) ∧ Ext w' w'') := fun w' k hw' => gby_impl w' rule sz a c vs k (hR.ext hw')
  go_enter Tryz.func14, Tryz.ntmps14
  go_wp2_with fail
  generalize w.alloc (.cells #[.int .i64 sz, .slice a vs.length c] 26) = W0 at q0 q1 hw ⊢
  have Q0 := q0
  have Q1 := q1
  go_loopw [5, 6, 7, 8, 12] (fun n _ _ _ i wr => ∃ k m : Nat, k ≤ vs.length ∧ i = .int .i64 k ∧ n = .int .i64 m ∧ m ≤ k ∧ Hid (m = cntN k (gainB rule sz vs)) ∧ Ext W0 wr) (fun _ _ _ _ i _ => vs.length - (intOf i).toNat)
  case atStart => exact ⟨0, 0, Nat.zero_le _, rfl, rfl, Nat.le_refl _, hide (cntN_zero _).symm, Ext.refl _⟩
  case round =>
    obtain ⟨k, m, hk, rfl, rfl, hmk, hm, hwr⟩ := hrel
    have q0 := hwr.keep Q0
    have q1 := hwr.keep Q1
    by_cases hlt : k < vs.length
    · have HGk := hide (HG.out wr k (hw.trans hwr))
      have HS := hide (cntN_succ k (gainB rule sz vs))
      have hk1 : k + 1 ≤ vs.length := by omega
      cases hg : gainB rule sz vs k
      · rw [hg] at HGk HS
        have HN : Hid (m = cntN (k + 1) (gainB rule sz vs)) := hide (by rw [HS.out, hm.out]; simp)
        clear hg HS
        go_wp2_with fail
        refine HGk.out.mono ?_
        rintro e w4 ⟨v, rfl, hw4⟩
        go_wp2
        exact ⟨⟨k + 1, m, hk1, by go_num, rfl, by omega, HN, hwr.trans hw4⟩, by simp [intOf]; omega⟩
      · rw [hg] at HGk HS
        have HN : Hid (m + 1 = cntN (k + 1) (gainB rule sz vs)) := hide (by rw [HS.out, hm.out]; simp)
        clear hg HS
        go_wp2_with fail
        refine HGk.out.mono ?_
        rintro e w4 ⟨v, rfl, hw4⟩
        go_wp2
        exact ⟨⟨k + 1, m + 1, hk1, by go_num, by go_num, by omega, HN, hwr.trans hw4⟩, by simp [intOf]; omega⟩
    · have hkn : k = vs.length := by omega
      have HF : Hid (gcntO rule sz vs = m) := hide (by unfold gcntO; rw [hm.out, hkn])
      go_wp2
      go_ret
      exact ⟨ret_int HF.out.symm, hw.trans hwr⟩

structure GnsF (rule : Int) (n : Nat) (vs : List Vt) (k : Nat) (x : Vt) (y wn : Nat) : Prop where
  gn : gnB rule n vs k = true
  rk : rkOk n (bstO rule n vs k) = true
  win : winB rule n (vs.set k (bstO rule n vs k, x.2)) = y
  wnE : winB rule n vs = wn
  len : 1 ≤ (reaO rule n vs k).length
  low : ∀ a ∈ reaO rule n vs k, prefB x.1 a y = false
  hasY : hasI (reaO rule n vs k) y = true
  hasW : hasI (reaO rule n vs k) wn = true
  gain : gainB rule n vs k = prefB x.1 y wn
  mem : ∀ a ∈ reaO rule n vs k, ∃ b : Nat, b < n ∧ a = b
set_option maxRecDepth 100000 in
theorem gns_f {rule : Int} {n : Nat} {vs : List Vt} {k : Nat} {x : Vt} (h0 : profOk n vs = true) (n4 : n ≤ 4) (r1 : 1 ≤ rule) (r2 : rule ≤ 13) (hx : vs[k]? = some x) : ∃ y wn : Nat, GnsF rule n vs k x y wn := by
  have hsz := prof_size h0
  have hS := prof_small h0
  have hk := lt_of_at hx
  have xk := (hS.2 x (List.mem_of_getElem? hx)).1
  have hgn : gnB rule n vs k = true := by
    unfold gnB plyB
    rw [h0, decide_eq_true (show (n : Int) ≤ 4 by omega), inR_iff.2 ⟨r1, r2⟩, inR_iff.2 (show (0 : Int) ≤ (k : Int) ∧ (k : Int) ≤ (vs.length : Int) - 1 by omega)]
    rfl
  have hgd : vs.getD k ([], 0) = x := by simp [List.getD, hx]
  have hbo : bstO rule n vs k = (repO (gnW rule n vs k) x.1 n).1 := by unfold bstO; rw [if_pos hgn, Int.toNat_natCast, Int.toNat_natCast, hgd]
  obtain ⟨hrk, hgw⟩ := repO_ok x.1 h0 r1 r2 hx
  obtain ⟨y, hyn, ey⟩ := gnW_lt h0 r1 r2 hx hrk
  obtain ⟨wn, hwn, ew⟩ := winB_some h0 r1 r2
  have hrea : reaO rule n vs k = upL n (fun a => (wayO (gnW rule n vs k) (allO n) a).isSome) := by unfold reaO; rw [if_pos hgn, Int.toNat_natCast, Int.toNat_natCast]
  have hin : ∀ r : List Int, rkOk n r = true → ∀ b : Nat, b < n → gnW rule n vs k r = b → (b : Int) ∈ reaO rule n vs k := fun r hr b hb e => by
    rw [hrea]
    refine upL_mem.2 ⟨b, hb, ?_, rfl⟩
    unfold wayO
    rw [List.find?_isSome]
    exact ⟨r, (allO_mem (by omega) (by omega)).2 hr, by rw [e]; simp⟩
  have hinv := repT_inv (W := gnW rule n vs k) (truth := x.1) (rows := allO n) (fun r hr => by obtain ⟨z, _, e⟩ := gnW_lt h0 r1 r2 hx ((allO_mem (by omega) (by omega)).1 hr); omega) (allO n).length (allO_pos (by omega) (by omega)) (Nat.le_refl _)
  rw [List.take_length] at hinv
  have hyin := hin _ hrk y hyn ey
  have hmem : ∀ a ∈ reaO rule n vs k, ∃ b : Nat, b < n ∧ a = b := fun a ha => by
    rw [hrea] at ha
    obtain ⟨i, hi, _, rfl⟩ := upL_mem.1 ha
    exact ⟨i, hi, rfl⟩
  refine ⟨y, wn, hgn, by rw [hbo]; exact hrk, ?_, ew, List.length_pos_of_mem hyin, fun a ha => ?_, hasI_iff.2 hyin, hasI_iff.2 (hin x.1 xk wn hwn (by rw [gnW_self hx, ew])), ?_, hmem⟩
  · rw [hbo, ← ey]
    unfold gnW
    rw [hgd]
  · rw [hrea] at ha
    obtain ⟨i, hi, hq, rfl⟩ := upL_mem.1 ha
    cases hw : wayO (gnW rule n vs k) (allO n) i with
    | none => simp only [hw] at hq; cases hq
    | some r =>
      obtain ⟨w1, w2⟩ := wayO_mem hw
      have := hinv.2.1 r w1
      rw [w2] at this
      have e2 : (repT (gnW rule n vs k) x.1 (allO n) (allO n).length).2 = y := by rw [← ey, hgw]; rfl
      rw [e2] at this
      exact this
  · unfold gainB betB
    rw [hgn, Bool.true_and, hgd, Int.toNat_natCast, ← hgw, ey, ew]
structure GnsC (rule : Int) (n : Nat) (vs : List Vt) (C : Nat) : Prop where
  cnt : gcntO rule n vs = C
  le : C ≤ vs.length
  fst : (C = 0 ∧ gfstO rule n vs = -1) ∨ (1 ≤ C ∧ ∃ f : Nat, gfstO rule n vs = f)
  set : setO rule n vs n vs = decide (C = 0)
  two : n = 2 → C = 0
  none : C = 0 → ∀ (k : Nat) (x : Vt), vs[k]? = some x → betB rule n vs k x.1 = false
set_option maxRecDepth 100000 in
theorem gns_c {rule : Int} {n : Nat} {vs : List Vt} (h0 : profOk n vs = true) (n4 : n ≤ 4) (r1 : 1 ≤ rule) (r2 : rule ≤ 13) : ∃ C : Nat, GnsC rule n vs C := by
  have hg : ∀ (k : Nat) (x : Vt), vs[k]? = some x → gainB rule n vs k = betB rule n vs k x.1 := fun k x hx => by
    have hk := lt_of_at hx
    have hgn : gnB rule n vs k = true := by
      unfold gnB plyB
      rw [h0, decide_eq_true (show (n : Int) ≤ 4 by omega), inR_iff.2 ⟨r1, r2⟩, inR_iff.2 (show (0 : Int) ≤ (k : Int) ∧ (k : Int) ≤ (vs.length : Int) - 1 by omega)]
      rfl
    have hgd : vs.getD k ([], 0) = x := by simp [List.getD, hx]
    unfold gainB
    rw [hgn, Bool.true_and, hgd]
  have h1 : cntN vs.length (gainB rule n vs) = 0 ↔ ∀ j, j < vs.length → gainB rule n vs j = false := by
    rw [cntN_none, allN_iff]
    exact ⟨fun h j hj => by have := h j hj; simpa using this, fun h j hj => by rw [h j hj]; rfl⟩
  have hnone : cntN vs.length (gainB rule n vs) = 0 → ∀ (k : Nat) (x : Vt), vs[k]? = some x → betB rule n vs k x.1 = false := fun h k x hx => by
    rw [← hg k x hx]
    exact h1.1 h k (lt_of_at hx)
  have hply : plyB rule n vs = true := by
    unfold plyB
    rw [h0, decide_eq_true (show (n : Int) ≤ 4 by omega), inR_iff.2 ⟨r1, r2⟩]
    rfl
  refine ⟨cntN vs.length (gainB rule n vs), rfl, cntN_le _ _, ?_, ?_, fun h2 => ?_, hnone⟩
  · by_cases hc : cntN vs.length (gainB rule n vs) = 0
    · exact .inl ⟨hc, firstN_none (h1.1 hc)⟩
    · refine .inr ⟨by omega, ?_⟩
      unfold gfstO firstN
      cases hf : (List.range vs.length).find? (gainB rule n vs) with
      | some f => exact ⟨f, rfl⟩
      | none =>
        exfalso
        rw [List.find?_eq_none] at hf
        exact hc (h1.2 (fun j hj => by have := hf j (List.mem_range.2 hj); simpa using this))
  · unfold setO
    rw [hply, h0, decide_eq_true (rfl : (n : Int) = n), decide_eq_true (rfl : vs.length = vs.length)]
    simp only [Bool.true_and]
    rw [Bool.eq_iff_iff, allN_iff, decide_eq_true_iff, h1]
    constructor
    · intro h j hj
      obtain ⟨x, hx⟩ := at_of_lt hj
      have := h j hj
      rw [show vs.getD j ([], 0) = x by simp [List.getD, hx]] at this
      rw [hg j x hx]
      simpa using this
    · intro h j hj
      obtain ⟨x, hx⟩ := at_of_lt hj
      have := h j hj
      rw [hg j x hx] at this
      rw [show vs.getD j ([], 0) = x by simp [List.getD, hx], this]
      rfl
  · subst h2
    exact h1.2 (fun j hj => by
      obtain ⟨x, hx⟩ := at_of_lt hj
      rw [hg j x hx]
      exact two_none h0 r1 r2 hx)

/-- The ranking that is told where somebody gains. -/
def GbR (w' : World) (g : Bool) (r : List Int) (v : Value) : Prop := g = true → ∃ a' c', v = .slice a' r.length c' ∧ RdI w' a' r

set_option maxRecDepth 100000 in
set_option maxHeartbeats 8000000 in
theorem gbr_impl (w : World) (rule sz : Int) (a : Option Addr) (c : Nat) (vs : List Vt) (k : Nat) (hR : RdV w a vs) :
    Calls Tryz.prog 11 #[.int .i64 rule, .agg #[.int .i64 sz, .slice a vs.length c], .int .i64 k] w fun e w' => ∃ v, e = .returned (.tuple #[v, .bool (gainB rule sz vs k)]) ∧ GbR w' (gainB rule sz vs k) (bstO rule sz vs k) v ∧ Ext w w' := by
  have HBS := hide (fun w' (hw' : Ext w w') => bst_impl w' rule sz a c vs k (hR.ext hw'))
  have q0 := new0 w (.int .i64 sz) [.slice a vs.length c] 26
  have q1 := new1 w (.int .i64 sz) (.slice a vs.length c) [] 26
  have hw := Ext.new w (.cells #[.int .i64 sz, .slice a vs.length c] 26)
  cases hg : gnB rule sz vs k
  · have HF : Hid (gainB rule sz vs k = false) := hide (by unfold gainB; rw [hg]; rfl)
    rw [hg] at HBS
    clear hg
    rw [HF.out]
    go_enter Tryz.func11, Tryz.ntmps11
    go_wp2_with fail
    refine (HBS.out _ hw).mono ?_
    rintro e w1 ⟨v, rfl, hv, hw1⟩
    go_wp2
    go_ret2
    exact ⟨_, rfl, (fun h => by cases h), hw.trans hw1⟩
  rw [hg] at HBS
  obtain ⟨n, kn, x, rfl, hkk, h0, n4, r1, r2, hx⟩ := gn_ok hg
  obtain rfl : k = kn := by omega
  have hk := prof_ok_at h0 hx
  have hxl := (rk_len hk).2
  obtain ⟨hrk, hgw⟩ := repO_ok x.1 h0 r1 r2 hx
  have hgd : vs.getD k ([], 0) = x := by simp [List.getD, hx]
  have hbo : bstO rule n vs k = (repO (gnW rule n vs k) x.1 n).1 := by unfold bstO; rw [if_pos hg, Int.toNat_natCast, Int.toNat_natCast, hgd]
  have hga : gainB rule n vs k = prefB x.1 (winB rule n (vs.set k ((repO (gnW rule n vs k) x.1 n).1, x.2))) (winB rule n vs) := by
    unfold gainB betB
    rw [hg, Bool.true_and, hgd, Int.toNat_natCast, ← hgw]
    unfold gnW
    rw [hgd]
  rw [hbo] at HBS
  rw [hga, hbo]
  generalize (repO (gnW rule n vs k) x.1 n).1 = r at HBS hrk ⊢
  have HWR : Hid (∀ w' ar cr, Ext w w' → RdI w' ar r → r.length ≤ cr → Calls Tryz.prog 8 #[.agg #[.int .i64 n, .slice a vs.length c], .int .i64 k, .slice ar r.length cr] w' fun e w'' => ∃ a' c', e = .returned (.tuple #[.agg #[.int .i64 n, .slice a' vs.length c'], .bool true]) ∧ RdV w'' a' (vs.set k (r, x.2)) ∧ Ext w' w'') := fun w' ar cr hw' hRr hcr => withR_impl w' n a ar c cr k vs r x hx (hR.ext hw') hRr h0 hrk hcr
  have HWQ : Hid (∀ w' a3 c3, RdV w' a3 (vs.set k (r, x.2)) → Calls Tryz.prog 9 #[.int .i64 rule, .agg #[.int .i64 n, .slice a3 vs.length c3]] w' fun e w'' => e = .returned (.int .i64 (winB rule n (vs.set k (r, x.2)))) ∧ Ext w' w'') := fun w' a3 c3 h3 => by
    have h := winb_impl w' rule n a3 c3 _ h3
    rw [List.length_set] at h
    exact h
  have HWP : Hid (∀ w', Ext w w' → Calls Tryz.prog 9 #[.int .i64 rule, .agg #[.int .i64 n, .slice a vs.length c]] w' fun e w'' => e = .returned (.int .i64 (winB rule n vs)) ∧ Ext w' w'') := fun w' hw' => winb_impl w' rule n a c vs (hR.ext hw')
  have hkl := lt_of_at hx
  obtain ⟨b, off, a', c', rfl, c0, c1, hc', hRx⟩ := hR.at_ hx
  generalize winB rule n (vs.set k (r, x.2)) = y1 at HWQ ⊢
  generalize winB rule n vs = y2 at HWP ⊢
  have HPF : Hid (∀ w', Ext w w' → Calls Tryz.prog 10 #[.slice a' x.1.length c', .int .i64 y1, .int .i64 y2] w' fun e w'' => e = .returned (.bool (prefB x.1 y1 y2)) ∧ Ext w' w'') := fun w' hw' => pref_impl w' a' c' x.1 y1 y2 (hRx.ext hw') (by omega)
  clear hg hga hbo hgw hgd h0 r1 r2 hx hk hrk hkk
  have q0 := new0 w (.int .i64 n) [.slice (some ⟨b, off, none⟩) vs.length c] 26
  have q1 := new1 w (.int .i64 n) (.slice (some ⟨b, off, none⟩) vs.length c) [] 26
  have hw := Ext.new w (.cells #[.int .i64 n, .slice (some ⟨b, off, none⟩) vs.length c] 26)
  cases hp : prefB x.1 y1 y2
  all_goals
    rw [hp] at HPF
    go_enter Tryz.func11, Tryz.ntmps11
    go_wp2_with fail
    refine (HBS.out _ hw).mono ?_
    rintro e w1 ⟨v, rfl, hv, hw1⟩
    obtain ⟨av, cv, rfl, hcv, hju⟩ := hv.wr
    have hRv := hv.rdI
    have hE1 := hw.trans hw1
    have q0 := hw1.keep q0
    have q1 := hw1.keep q1
    clear hju hv
    go_wp2_with fail
    refine (HWR.out _ av cv hE1 hRv hcv).mono ?_
    rintro e w2 ⟨a3, c3, rfl, hR3, hw2⟩
    have q0 := hw2.keep q0
    have q1 := hw2.keep q1
    have p0 := new0 w2 (.int .i64 n) [.slice a3 vs.length c3] 26
    have p1 := new1 w2 (.int .i64 n) (.slice a3 vs.length c3) [] 26
    have hN := Ext.new w2 (.cells #[.int .i64 n, .slice a3 vs.length c3] 26)
    have q0 := hN.keep q0
    have q1 := hN.keep q1
    have hR3 := hR3.ext hN
    have hE2 := hE1.trans (hw2.trans hN)
    have c0 := hE2.keep c0
    have HRV := hide (hRv.ext (hw2.trans hN))
    clear hRv hw1 hw2 hE1
    go_wp2_with fail
    refine wp_region_X (by kernel_rfl) (by kernel_rfl) ?_
    repeat' (refine wpX_stepQ (fun K hK => ?_)
             go_simp
             try (rw [if_neg (by intro h; simp [undef] at h)])
             try split
             all_goals
               first
               | (refine hK _ ?_
                  clear hK K)
               | (apply Exists.intro
                  refine ⟨fun wq hwq => ?_, hK _ ?_⟩
                  · have hcq := hwq.cellS
                    go_simp
                    first
                    | exact ⟨Ext.refl _, rfl⟩
                  clear hK K))
    refine wpX_stepQ (fun K hK => ?_)
    go_simp
    apply Exists.intro
    refine ⟨fun wq hwq => ?_, hK _ ?_⟩
    · have hcq := hwq.cellS
      go_simp
      exact ⟨Ext.refl _, HWQ.out wq a3 c3 (hR3.ext hwq)⟩
    clear hK K
    repeat' (refine wpX_stepQ (fun K hK => ?_)
             go_simp
             try (rw [if_neg (by intro h; simp [undef] at h)])
             try split
             all_goals
               first
               | (refine hK _ ?_
                  clear hK K)
               | (apply Exists.intro
                  refine ⟨fun wq hwq => ?_, hK _ ?_⟩
                  · have hcq := hwq.cellS
                    go_simp
                    first
                    | exact ⟨Ext.refl _, rfl⟩
                  clear hK K))
    refine wpX_stepQ (fun K hK => ?_)
    go_simp
    apply Exists.intro
    refine ⟨fun wq hwq => ?_, hK _ ?_⟩
    · have hcq := hwq.cellS
      go_simp
      exact ⟨Ext.refl _, HWP.out wq (hE2.trans hwq)⟩
    clear hK K
    repeat' (refine wpX_stepQ (fun K hK => ?_)
             go_simp
             try (rw [if_neg (by intro h; simp [undef] at h)])
             try split
             all_goals
               first
               | (refine hK _ ?_
                  clear hK K)
               | (apply Exists.intro
                  refine ⟨fun wq hwq => ?_, hK _ ?_⟩
                  · have hcq := hwq.cellS
                    go_simp
                    first
                    | exact ⟨Ext.refl _, rfl⟩
                    | exact ⟨Ext.refl _, HPF.out wq (hE2.trans hwq)⟩
                  clear hK K))
    refine wpX_nil (fun wz hwz => ?_)
    go_wp2
    go_ret2
    first
      | exact ⟨.slice av r.length cv, rfl, fun _ => ⟨av, cv, rfl, HRV.out.ext hwz⟩, hE2.trans hwz⟩
      | exact ⟨_, rfl, fun h => absurd h (by decide), hE2.trans hwz⟩

/-- Block g holds votes; each ranking can be read, outside of g. -/
def PlV (w : World) (B g : Nat) (us : List Vt) : Prop := ∃ f, BlkF w g (us.length * 2) f ∧ ∀ (j : Nat) (x : Vt), us[j]? = some x → ∃ a' c', f (j * 2) = .slice a' x.1.length c' ∧ f (j * 2 + 1) = .int .i64 x.2 ∧ x.1.length ≤ c' ∧ RdI w a' x.1 ∧ (x.1 ≠ [] → ∀ b off, a' = some ⟨b, off, none⟩ → B ≤ b ∧ b ≠ g)
set_option maxRecDepth 100000 in
theorem PlV.ext {w w' : World} {B g : Nat} {us : List Vt} (h : PlV w B g us) (hw : Ext w w') : PlV w' B g us := by
  obtain ⟨f, hB, hf⟩ := h
  refine ⟨f, hB.ext hw, fun j x hx => ?_⟩
  obtain ⟨a', c', h1, h2, h3, h4, h5⟩ := hf j x hx
  exact ⟨a', c', h1, h2, h3, h4.ext hw, h5⟩
set_option maxRecDepth 100000 in
theorem PlV.rd {w : World} {B g : Nat} {us : List Vt} (h : PlV w B g us) : RdV w (some ⟨g, 0, none⟩) us := fun _ => by
  obtain ⟨f, hB, hf⟩ := h
  refine ⟨g, 0, rfl, fun j x hx => ?_⟩
  have hl := lt_of_at hx
  obtain ⟨a', c', h1, h2, h3, h4, _⟩ := hf j x hx
  refine ⟨a', c', ?_, ?_, h3, h4⟩
  · rw [Nat.zero_add, hB.cell _ (by omega), h1]
  · rw [Nat.zero_add, hB.cell _ (by omega), h2]
set_option maxRecDepth 100000 in
theorem PlV.at_ {w : World} {B g : Nat} {us : List Vt} (h : PlV w B g us) {k : Nat} {x : Vt} (hx : us[k]? = some x) : ∃ u, w.cell? ⟨g, k * 2, none⟩ = some u ∧ w.frozen? ⟨g, k * 2, none⟩ = false := by
  obtain ⟨f, hB, _⟩ := h
  have hl := lt_of_at hx
  exact ⟨_, hB.cell (k * 2) (by omega), hB.fr _⟩
set_option maxRecDepth 100000 in
theorem PlV.only {w w' : World} {B g q : Nat} {us : List Vt} (h : PlV w B g us) (hq : q < B) (hg : B ≤ g) (hw : Only q w w') : PlV w' B g us := by
  obtain ⟨f, hB, hf⟩ := h
  refine ⟨f, hw.blk hB (by omega), fun j x hx => ?_⟩
  obtain ⟨a', c', h1, h2, h3, h4, h5⟩ := hf j x hx
  refine ⟨a', c', h1, h2, h3, ?_, h5⟩
  by_cases h0 : x.1 = []
  · rw [h0]; exact RdI.nil _ _
  · exact hw.rdI h4 (fun b off e => by have := (h5 h0 b off e).1; omega)
set_option maxRecDepth 100000 in
theorem PlV.set {w : World} {B g : Nat} {us : List Vt} (h : PlV w B g us) {k : Nat} {x : Vt} (hx : us[k]? = some x) {r : List Int} {au : Option Addr} {cu : Nat} (hr : RdI w au r) (hc : r.length ≤ cu) (hne : ∀ b off, au = some ⟨b, off, none⟩ → B ≤ b ∧ b ≠ g) :
    PlV (w.setCell ⟨g, k * 2, none⟩ (.slice au r.length cu)) B g (us.set k (r, x.2)) := by
  obtain ⟨f, hB, hf⟩ := h
  have hl := lt_of_at hx
  have hS := hB.set (k * 2) (by omega) (.slice au r.length cu)
  have hO : Only g w (w.setCell ⟨g, k * 2, none⟩ (.slice au r.length cu)) := (Only.refl g w).setCell _ _
  generalize w.setCell ⟨g, k * 2, none⟩ (.slice au r.length cu) = w' at hS hO
  refine ⟨_, by rw [List.length_set]; exact hS, fun j y hy => ?_⟩
  rw [List.getElem?_set] at hy
  by_cases hjk : k = j
  · subst hjk
    rw [if_pos rfl, if_pos hl] at hy
    injection hy with hy
    subst hy
    obtain ⟨_, _, _, h2, _⟩ := hf k x hx
    exact ⟨au, cu, if_pos rfl, by rw [if_neg (by omega)]; exact h2, hc, hO.rdI hr (fun b off e => (hne b off e).2), fun _ => hne⟩
  · rw [if_neg hjk] at hy
    obtain ⟨a', c', h1, h2, h3, h4, h5⟩ := hf j y hy
    refine ⟨a', c', by rw [if_neg (by omega)]; exact h1, by rw [if_neg (by omega)]; exact h2, h3, ?_, h5⟩
    by_cases h0 : y.1 = []
    · rw [h0]; exact RdI.nil _ _
    · exact hO.rdI h4 (fun b off e => (h5 h0 b off e).2)
set_option maxRecDepth 100000 in
theorem LstV.pl {w : World} {B g n c : Nat} {es : List (RowE × Int)} (h : LstV w B (.slice (some ⟨g, 0, none⟩) n c) es) : PlV w B g (vtsOf es) := by
  refine ⟨_, by unfold vtsOf; rw [List.length_map]; exact h.1.own, fun j x hx => ?_⟩
  unfold vtsOf at hx
  rw [List.getElem?_map, Option.map_eq_some_iff] at hx
  obtain ⟨f, hf, rfl⟩ := hx
  obtain ⟨c0, c1⟩ := vtL_at hf
  have hm := List.mem_map_of_mem (f := Prod.fst) (List.mem_of_getElem? hf)
  have hO2 := h.2.1 f.1 hm
  obtain ⟨a2, c2, hv2, hc2, _, hR2, hb2⟩ := hO2.val
  have hne3 := rowsV_ne h.1 h.2 f.1 hm
  have hv2' := hv2
  unfold rowV at hv2
  injection hv2 with e1 e2 e3
  refine ⟨a2, c2, ?_, ?_, hc2, hR2, fun hne b off e => ?_⟩
  · simp [List.getD, c0, hv2']
  · simp [List.getD, c1]
  · obtain ⟨g2, ha2, hg2, _⟩ := hb2 hne
    rw [ha2] at e
    injection e with e
    injection e with e
    subst e
    rw [hv2', ha2] at hne3
    refine ⟨hg2, ?_⟩
    rintro rfl
    rcases hne3 with h | h
    · cases h
    · exact h rfl
/-- The votes in the course of a round of replies. -/
def PlI (w : World) (B g : Nat) (rule : Int) (n : Nat) (vs : List Vt) : Prop := ∃ us, PlV w B g us ∧ profOk n us = true ∧ us.length = vs.length ∧ ((∀ (k : Nat) (x : Vt), vs[k]? = some x → betB rule n vs k x.1 = false) → us = vs)
/-- What a round of replies leaves behind. -/
def PlO (w w' : World) (rule : Int) (n : Nat) (vs us : List Vt) (a' : Option Addr) : Prop := RdV w' a' us ∧ profOk n us = true ∧ us.length = vs.length ∧ ((∀ (k : Nat) (x : Vt), vs[k]? = some x → betB rule n vs k x.1 = false) → us = vs) ∧ Ext w w'
def PlF (w w' : World) (rule : Int) (n : Nat) (vs : List Vt) (a' : Option Addr) : Prop := ∃ us, PlO w w' rule n vs us a'
/-- What betterFor answers. -/
def BtF (W' w' : World) (rule : Int) (n : Nat) (us : List Vt) (k : Nat) (t : List Int) (v : Value) : Prop := (betB rule n us k t = true ∧ ∃ gr cr, v = .slice (some ⟨gr, 0, none⟩) (repO (gnW rule n us k) t n).1.length cr ∧ OwnI w' W'.heap.size v (repO (gnW rule n us k) t n).1) ∨ (betB rule n us k t = false ∧ v = .slice none 0 0)

set_option maxRecDepth 100000 in
set_option maxHeartbeats 8000000 in
theorem plr_impl (w : World) (rule : Int) (n : Nat) (a : Option Addr) (c : Nat) (vs : List Vt) (hR : RdV w a vs) (h0 : profOk n vs = true) (n4 : n ≤ 4) (r1 : 1 ≤ rule) (r2 : rule ≤ 13) (hne : 1 ≤ vs.length) :
    Calls Tryz.prog 16 #[.int .i64 rule, .agg #[.int .i64 n, .slice a vs.length c], .int .i64 1] w fun e w' => ∃ (a' : Option Addr) (c' : Nat), e = .returned (.tuple #[.agg #[.int .i64 n, .slice a' vs.length c'], .bool true]) ∧ PlF w w' rule n vs a' := by
  have hvl := (prof_small h0).1
  have HS := hide (prof_small h0)
  have HPL : Hid (∀ W, Ext w W → Calls Tryz.prog 33 #[.int .i64 rule, .agg #[.int .i64 n, .slice a vs.length c]] W fun e w' => e = .returned (.bool true) ∧ Ext W w') := hide (fun W hW => by
    have h := ply_impl W rule n a c vs (hR.ext hW)
    have hp : plyB rule n vs = true := by
      unfold plyB
      rw [h0, decide_eq_true (by omega), inR_iff.2 ⟨r1, r2⟩]
      rfl
    rw [hp] at h
    exact h)
  have HIN : Hid (∀ W, Calls Tryz.prog 26 #[.int .i64 1, .int .i64 0, .int .i64 5] W fun e w' => e = .returned (.bool true) ∧ Ext W w') := hide (fun W => by
    have h := in_impl 1 0 5 W
    rw [show inR 1 0 5 = true from rfl] at h
    exact h)
  have H0 := hide h0
  have q0 := new0 w (.int .i64 n) [.slice a vs.length c] 26
  have q1 := new1 w (.int .i64 n) (.slice a vs.length c) [] 26
  have hs0 : (w.alloc (.cells #[.int .i64 n, .slice a vs.length c] 26)).heap.size = w.heap.size + 1 := by simp
  have p0 := BlkF.new (w.alloc (.cells #[.int .i64 n, .slice a vs.length c] 26)) #[.int .i64 0, .slice none 0 0] 26
  rw [hs0] at p0
  have hneq : ∀ (W : World) (a : Addr) (n c : Nat), (binOp .neq 28 (.slice (some a) n c) (.slice none 0 0)).run Tryz.prog W = .ok (.bool true) W := fun W a n c => run_neq_some W a n c Tryz.underlying28
  have hnn : ∀ (W : World), (binOp .neq 28 (.slice none 0 0) (.slice none 0 0)).run Tryz.prog W = .ok (.bool false) W := fun W => run_neq_none W 0 0 Tryz.underlying28
  clear h0 hs0
  go_enter Tryz.func16, Tryz.ntmps16
  go_wp2_with (first | (go_at_call 33; refine (HPL.out _ (by repeat (first | exact Ext.refl _ | assumption | refine Ext.alloc ?_ _ | refine Ext.drew ?_ | refine Ext.trans ?_ (by assumption)))).mono ?_; rintro e w1 ⟨rfl, hw1⟩; have q0 := Ext.keep (w' := w1) (by repeat (first | exact Ext.refl _ | assumption | refine Ext.alloc ?_ _ | refine Ext.drew ?_ | refine Ext.trans ?_ (by assumption))) q0; have q1 := Ext.keep (w' := w1) (by repeat (first | exact Ext.refl _ | assumption | refine Ext.alloc ?_ _ | refine Ext.drew ?_ | refine Ext.trans ?_ (by assumption))) q1) | (go_at_call 26; refine (HIN.out _).mono ?_; rintro e w1 ⟨rfl, hw1⟩; have q0 := Ext.keep (w' := w1) (by repeat (first | exact Ext.refl _ | assumption | refine Ext.alloc ?_ _ | refine Ext.drew ?_ | refine Ext.trans ?_ (by assumption))) q0; have q1 := Ext.keep (w' := w1) (by repeat (first | exact Ext.refl _ | assumption | refine Ext.alloc ?_ _ | refine Ext.drew ?_ | refine Ext.trans ?_ (by assumption))) q1))
  have P1 := hide (p0.ext (w' := w1) (by repeat (first | exact Ext.refl _ | assumption | refine Ext.alloc ?_ _ | refine Ext.drew ?_ | refine Ext.trans ?_ (by assumption))))
  have hw : Ext w w1 := (by repeat (first | exact Ext.refl _ | assumption | refine Ext.alloc ?_ _ | refine Ext.drew ?_ | refine Ext.trans ?_ (by assumption)))
  clear p0 HPL HIN hw1
  obtain ⟨wb, hwb⟩ : ∃ wb : World, wb = w1 := ⟨_, rfl⟩
  subst hwb
  refine (clone_impl _ n a c vs (hR.ext hw) H0.out).mono ?_
  rintro e w2 ⟨v, es, rfl, hl, hm, hw2⟩
  rw [map_same] at hm
  have hel := vtsOf_len hm
  obtain ⟨g, c2, rfl, hc2, hg, hgl⟩ := hl.at0 (fun e => by rw [e] at hel; simp at hel; omega)
  have hP := hl.pl
  rw [hm] at hP
  rw [hel]
  have e0 := new0 w2 (.int .i64 n) [.slice (some ⟨g, 0, none⟩) vs.length c2] 26
  have e1 := new1 w2 (.int .i64 n) (.slice (some ⟨g, 0, none⟩) vs.length c2) [] 26
  have hE2 := Ext.new w2 (.cells #[.int .i64 n, .slice (some ⟨g, 0, none⟩) vs.length c2] 26)
  have hp1 := P1.out.lt
  have hwg : w.heap.size + 1 < g := by omega
  have hbg : wb.heap.size ≤ g := hg
  have hwb2 : w.heap.size + 1 < wb.heap.size := hp1
  obtain ⟨b, hb⟩ : ∃ b : Nat, b = w2.heap.size := ⟨_, rfl⟩
  have hgb : g < b := by omega
  have hwW := hw2.trans hE2
  replace q0 := hwW.keep q0
  replace q1 := hwW.keep q1
  have P2 := hide (P1.out.ext hwW)
  have HP := hide (hP.ext hE2)
  clear hl hm hel hc2 hgl hP P1 hw2 hE2 hg hp1
  go_wp2_with fail
  rw [← hb] at e0 e1 ⊢
  generalize w2.alloc (.cells #[.int .i64 n, .slice (some ⟨g, 0, none⟩) vs.length c2] 26) = W at q0 q1 e0 e1 P2 HP hwW ⊢
  clear hb
  obtain ⟨B, hB⟩ : ∃ B : Nat, B = wb.heap.size := ⟨_, rfl⟩
  rw [← hB] at HP hbg
  have hwB : w.heap.size + 1 < B := by omega
  have hBW : B ≤ wb.heap.size := by omega
  have hIm : Hid ((∀ (k : Nat) (x : Vt), vs[k]? = some x → betB rule n vs k x.1 = false) → vs = vs) := hide (fun _ => rfl)
  go_loopw [9, 10, 11, 25, 28, 29, 30] (fun _ _ _ i _ _ _ wr => ∃ j : Nat, j ≤ 1 ∧ i = .int .i64 j ∧ Hid (PlI wr B g rule n vs) ∧ Only g W wr) (fun _ _ _ i _ _ _ _ => 1 - (intOf i).toNat)
  case atStart => exact ⟨0, Nat.zero_le _, rfl, hide ⟨vs, HP.out, H0.out, rfl, hIm.out⟩, Only.refl _ _⟩
  case round =>
    clear HP hIm
    obtain ⟨j, hj, rfl, HI, hO⟩ := hrel
    by_cases hj1 : j < 1
    · have hj2 : (j : Int) < 1 := by omega
      have hj0 : j + 1 ≤ 1 := by omega
      have r0 := hO.keep (p := ⟨w.heap.size, 0, none⟩) (by dsimp only; omega) q0
      have r1' := hO.keep (p := ⟨w.heap.size, 1, none⟩) (by dsimp only; omega) q1
      obtain ⟨wi, hwi⟩ : ∃ wi : World, wi = wr := ⟨_, rfl⟩
      subst hwi
      clear hj
      go_wp2_with fail
      clear r0 r1'
      go_loopw [9, 10, 11, 30] (fun _ _ _ i wr => ∃ k : Nat, k ≤ vs.length ∧ i = .int .i64 k ∧ Hid (PlI wr B g rule n vs) ∧ Only g W wr) (fun _ _ _ i _ => vs.length - (intOf i).toNat)
      case atStart => exact ⟨0, Nat.zero_le _, rfl, HI, hO⟩
      case round =>
        clear HI hO
        obtain ⟨k, hk, rfl, HI, hO⟩ := hrel
        by_cases hkt : k < vs.length
        · obtain ⟨x, hx⟩ := at_of_lt hkt
          have hEr : Ext w wr := hw.trans (Only.ext hwW hO (by omega))
          obtain ⟨b', off, a', c', rfl, c0, c1, hc', hRx⟩ := (hR.ext hEr).at_ hx
          obtain ⟨us, hP, hU, hUL, hIM⟩ := HI.out
          obtain ⟨y, hy⟩ := at_of_lt (xs := us) (k := k) (by omega)
          have hxk := (HS.out.2 x (List.mem_of_getElem? hx)).1
          have HBT : Hid (∀ W', Ext wr W' → Calls Tryz.prog 34 #[.int .i64 rule, .agg #[.int .i64 n, .slice (some ⟨g, 0, none⟩) vs.length c2], .int .i64 k, .slice a' x.1.length c'] W' fun e w' => ∃ v, e = .returned v ∧ BtF W' w' rule n us k x.1 v ∧ Ext W' w') := hide (fun W' hW' => by
            have h := bet_impl W' rule n (some ⟨g, 0, none⟩) a' c2 c' k us y x.1 hy (hP.ext hW').rd (hRx.ext hW') hxk hU r1 r2
            rw [hUL] at h
            exact h.mono fun e w' ⟨v, h1, h2, h3⟩ => ⟨v, h1, h2, h3⟩)
          have b0 := hO.keep (p := ⟨b, 0, none⟩) (by dsimp only; omega) e0
          have b1 := hO.keep (p := ⟨b, 1, none⟩) (by dsimp only; omega) e1
          have v0 := new0 wr (.slice a' x.1.length c') [.int .i64 x.2] 30
          have v1 := new1 wr (.slice a' x.1.length c') (.int .i64 x.2) [] 30
          have hEv := Ext.new wr (.cells #[.slice a' x.1.length c', .int .i64 x.2] 30)
          have hk1 : k + 1 ≤ vs.length := by omega
          have HX := hide hx
          have HY := hide hy
          have HPP := hide hP
          have HU := hide hU
          have HUL := hide hUL
          have HIM := hide hIM
          have hOg : B ≤ wr.heap.size := by have := hO.size; have := hwW.size; omega
          have hgr : g < wr.heap.size := by
            obtain ⟨f, hBf, _⟩ := hP
            exact hBf.lt
          clear hx hy hP hU hUL hIM hRx HI hxk
          go_wp2_with fail
          refine (HBT.out _ hEv).mono ?_
          rintro e w3 ⟨v, rfl, HV, hw3⟩
          have hE3 := hEv.trans hw3
          have hO3 := hO.trans (Only.of_ext hE3)
          replace b0 := hE3.keep b0
          replace b1 := hE3.keep b1
          have hP3 := HPP.out.ext hE3
          have hs3 := hEv.size
          clear v0 v1 HBT HPP hO
          rcases HV with ⟨hb, gr, cr, rfl, hOw⟩ | ⟨hb, rfl⟩
          · obtain ⟨u0, d0, z0⟩ := hP3.at_ HY.out
            obtain ⟨hrr, _⟩ := repO_ok (rule := rule) x.1 HU.out r1 r2 HY.out
            have hgl := World.ownsRow.lt hOw gr rfl
            obtain ⟨ar, cr', hva, hcr, _, hRr, _⟩ := hOw.val
            injection hva with hva _ hvc
            subst hvc
            rw [← hva] at hRr
            have hP4 := hP3.set HY.out hRr hcr (fun b2 off2 e => by
              injection e with e
              injection e with e
              omega)
            have hI4 : PlI _ B g rule n vs := ⟨_, hP4, set_ok HU.out HY.out hrr, by rw [List.length_set]; exact HUL.out, fun hno => by
              have e := HIM.out hno
              rw [e, hno k x HX.out] at hb
              cases hb⟩
            have HI4 := hide hI4
            generalize (repO (gnW rule n us k) x.1 n).1 = r at HI4
            clear hP4 hI4 hP3 hRr hOw hva hcr hb hrr HIM HU HUL HX HY
            go_wp2
            exact ⟨⟨k + 1, hk1, by go_num, HI4, hO3.setCell _ _⟩, by simp [intOf]; omega⟩
          · have hI4 : PlI w3 B g rule n vs := ⟨us, hP3, HU.out, HUL.out, HIM.out⟩
            have HI4 := hide hI4
            clear hI4 hP3 hb HIM HU HUL HX HY
            go_wp2
            exact ⟨⟨k + 1, hk1, by go_num, HI4, hO3⟩, by simp [intOf]; omega⟩
        · have hkv : ¬ (k : Int) < (vs.length : Int) := by omega
          go_wp2
          exact ⟨⟨j + 1, hj0, by go_num, HI, hO⟩, by simp [intOf]; omega⟩
    · have hj2 : ¬ (j : Int) < 1 := by omega
      have p1 := hO.blk P2.out (by omega)
      have r0 := p1.cell 0 (by simp)
      have r1' := p1.cell 1 (by simp)
      have z0 := p1.fr 0
      have z1 := p1.fr 1
      have b0 := hO.keep (p := ⟨b, 0, none⟩) (by dsimp only; omega) e0
      have b1 := hO.keep (p := ⟨b, 1, none⟩) (by dsimp only; omega) e1
      have hww := hw.trans (Only.ext hwW hO (by omega))
      clear p1
      go_wp2
      have hO1 : Only (w.heap.size + 1) wr ((wr.setCell ⟨w.heap.size + 1, 0, none⟩ (.int .i64 n)).setCell ⟨w.heap.size + 1, 1, none⟩ (.slice (some ⟨g, 0, none⟩) vs.length c2)) := ((Only.refl _ wr).setCell 0 _).setCell 1 _
      obtain ⟨us, hP, hU, hUL, hIM⟩ := HI.out
      have hfin : PlO w _ rule n vs us (some ⟨g, 0, none⟩) := ⟨(hP.only (by omega) hbg hO1).rd, hU, hUL, hIM, Only.ext hww hO1 (by omega)⟩
      refine bodyPost_ret (v := .tuple #[.agg #[.int .i64 n, .slice (some ⟨g, 0, none⟩) vs.length c2], .bool true]) (by simp [results, Tryz.results16, go_sem, r0, r1']) rfl ?_
      exact ⟨_, ⟨_, rfl⟩, us, hfin⟩

end Go.Proofs.YtfmeklgdaabooaaGreatDoor
