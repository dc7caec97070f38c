/- Who gains by a false vote, of the program and of the spec. -/
import Derived.Test.YtilcdnkkabmbfaaGreatRpl
namespace Go.Proofs.YtilcdnkkabmbfaaGreat
open Go.RowKit

set_option maxRecDepth 100000 in
set_option maxHeartbeats 8000000 in
theorem gby_impl (w : World) (rule sz : Int) (a : Option Addr) (c : Nat) (vs : List Vt) (k : Nat) (hR : RdV w a vs) :
    Calls Tryz.prog 30 #[.int .i64 rule, .agg #[.int .i64 sz, .slice a vs.length c], .int .i64 k] w fun e w' => ∃ v, e = .returned (.tuple #[v, .bool (gainB rule sz vs k)]) ∧ Ext w w' := by
  have HBS := hide (fun w' (hw' : Ext w w') => bst_impl w' rule sz a c vs k (hR.ext hw'))
  have q0 := new0 w (.int .i64 sz) [.slice a vs.length c] 29
  have q1 := new1 w (.int .i64 sz) (.slice a vs.length c) [] 29
  have hw := Ext.new w (.cells #[.int .i64 sz, .slice a vs.length c] 29)
  cases hg : gnB rule sz vs k
  · have HF : Hid (gainB rule sz vs k = false) := hide (by unfold gainB; rw [hg]; rfl)
    rw [hg] at HBS
    clear hg
    rw [HF.out]
    go_enter Tryz.func30, Tryz.ntmps30
    go_wp2_with fail
    refine (HBS.out _ hw).mono ?_
    rintro e w1 ⟨v, rfl, hv, hw1⟩
    go_wp2
    go_ret2
    exact ⟨_, rfl, hw.trans hw1⟩
  rw [hg] at HBS
  obtain ⟨n, kn, x, rfl, hkk, h0, n4, r1, r2, hx⟩ := gn_ok hg
  obtain rfl : k = kn := by omega
  have hk := prof_ok_at h0 hx
  have hxl := (rk_len hk).2
  obtain ⟨hrk, hgw⟩ := repO_ok x.1 h0 r1 r2 hx
  have hgd : vs.getD k ([], 0) = x := by simp [List.getD, hx]
  have hbo : bstO rule n vs k = (repO (gnW rule n vs k) x.1 n).1 := by unfold bstO; rw [if_pos hg, Int.toNat_natCast, Int.toNat_natCast, hgd]
  have hga : gainB rule n vs k = prefB x.1 (winB rule n (vs.set k ((repO (gnW rule n vs k) x.1 n).1, x.2))) (winB rule n vs) := by
    unfold gainB betB
    rw [hg, Bool.true_and, hgd, Int.toNat_natCast, ← hgw]
    unfold gnW
    rw [hgd]
  rw [hbo] at HBS
  rw [hga]
  generalize (repO (gnW rule n vs k) x.1 n).1 = r at HBS hrk ⊢
  have HWR : Hid (∀ w' ar cr, Ext w w' → RdI w' ar r → r.length ≤ cr → Calls Tryz.prog 60 #[.agg #[.int .i64 n, .slice a vs.length c], .int .i64 k, .slice ar r.length cr] w' fun e w'' => ∃ a' c', e = .returned (.tuple #[.agg #[.int .i64 n, .slice a' vs.length c'], .bool true]) ∧ RdV w'' a' (vs.set k (r, x.2)) ∧ Ext w' w'') := fun w' ar cr hw' hRr hcr => withR_impl w' n a ar c cr k vs r x hx (hR.ext hw') hRr h0 hrk hcr
  have HWQ : Hid (∀ w' a3 c3, RdV w' a3 (vs.set k (r, x.2)) → Calls Tryz.prog 18 #[.int .i64 rule, .agg #[.int .i64 n, .slice a3 vs.length c3]] w' fun e w'' => e = .returned (.int .i64 (winB rule n (vs.set k (r, x.2)))) ∧ Ext w' w'') := fun w' a3 c3 h3 => by
    have h := winb_impl w' rule n a3 c3 _ h3
    rw [List.length_set] at h
    exact h
  have HWP : Hid (∀ w', Ext w w' → Calls Tryz.prog 18 #[.int .i64 rule, .agg #[.int .i64 n, .slice a vs.length c]] w' fun e w'' => e = .returned (.int .i64 (winB rule n vs)) ∧ Ext w' w'') := fun w' hw' => winb_impl w' rule n a c vs (hR.ext hw')
  have hkl := lt_of_at hx
  obtain ⟨b, off, a', c', rfl, c0, c1, hc', hRx⟩ := hR.at_ hx
  generalize winB rule n (vs.set k (r, x.2)) = y1 at HWQ ⊢
  generalize winB rule n vs = y2 at HWP ⊢
  have HPF : Hid (∀ w', Ext w w' → Calls Tryz.prog 62 #[.slice a' x.1.length c', .int .i64 y1, .int .i64 y2] w' fun e w'' => e = .returned (.bool (prefB x.1 y1 y2)) ∧ Ext w' w'') := fun w' hw' => pref_impl w' a' c' x.1 y1 y2 (hRx.ext hw') (by omega)
  clear hg hga hbo hgw hgd h0 r1 r2 hx hk hrk hkk
  have q0 := new0 w (.int .i64 n) [.slice (some ⟨b, off, none⟩) vs.length c] 29
  have q1 := new1 w (.int .i64 n) (.slice (some ⟨b, off, none⟩) vs.length c) [] 29
  have hw := Ext.new w (.cells #[.int .i64 n, .slice (some ⟨b, off, none⟩) vs.length c] 29)
  cases hp : prefB x.1 y1 y2
  all_goals
    rw [hp] at HPF
    go_enter Tryz.func30, Tryz.ntmps30
    go_wp2_with fail
    refine (HBS.out _ hw).mono ?_
    rintro e w1 ⟨v, rfl, hv, hw1⟩
    obtain ⟨av, cv, rfl, hcv, hju⟩ := hv.wr
    have hRv := hv.rdI
    have hE1 := hw.trans hw1
    have q0 := hw1.keep q0
    have q1 := hw1.keep q1
    clear hju hv
    go_wp2_with fail
    refine (HWR.out _ av cv hE1 hRv hcv).mono ?_
    rintro e w2 ⟨a3, c3, rfl, hR3, hw2⟩
    have q0 := hw2.keep q0
    have q1 := hw2.keep q1
    have p0 := new0 w2 (.int .i64 n) [.slice a3 vs.length c3] 29
    have p1 := new1 w2 (.int .i64 n) (.slice a3 vs.length c3) [] 29
    have hN := Ext.new w2 (.cells #[.int .i64 n, .slice a3 vs.length c3] 29)
    have q0 := hN.keep q0
    have q1 := hN.keep q1
    have hR3 := hR3.ext hN
    have hE2 := hE1.trans (hw2.trans hN)
    have c0 := hE2.keep c0
    clear hRv hw1 hw2 hE1
    go_wp2_with fail
    refine wp_region_X (by kernel_rfl) (by kernel_rfl) ?_
    repeat' (refine wpX_stepQ (fun K hK => ?_)
             go_simp
             try (rw [if_neg (by intro h; simp [undef] at h)])
             try split
             all_goals
               first
               | (refine hK _ ?_
                  clear hK K)
               | (apply Exists.intro
                  refine ⟨fun wq hwq => ?_, hK _ ?_⟩
                  · have hcq := hwq.cellS
                    go_simp
                    first
                    | exact ⟨Ext.refl _, rfl⟩
                  clear hK K))
    refine wpX_stepQ (fun K hK => ?_)
    go_simp
    apply Exists.intro
    refine ⟨fun wq hwq => ?_, hK _ ?_⟩
    · have hcq := hwq.cellS
      go_simp
      exact ⟨Ext.refl _, HWQ.out wq a3 c3 (hR3.ext hwq)⟩
    clear hK K
    repeat' (refine wpX_stepQ (fun K hK => ?_)
             go_simp
             try (rw [if_neg (by intro h; simp [undef] at h)])
             try split
             all_goals
               first
               | (refine hK _ ?_
                  clear hK K)
               | (apply Exists.intro
                  refine ⟨fun wq hwq => ?_, hK _ ?_⟩
                  · have hcq := hwq.cellS
                    go_simp
                    first
                    | exact ⟨Ext.refl _, rfl⟩
                  clear hK K))
    refine wpX_stepQ (fun K hK => ?_)
    go_simp
    apply Exists.intro
    refine ⟨fun wq hwq => ?_, hK _ ?_⟩
    · have hcq := hwq.cellS
      go_simp
      exact ⟨Ext.refl _, HWP.out wq (hE2.trans hwq)⟩
    clear hK K
    repeat' (refine wpX_stepQ (fun K hK => ?_)
             go_simp
             try (rw [if_neg (by intro h; simp [undef] at h)])
             try split
             all_goals
               first
               | (refine hK _ ?_
                  clear hK K)
               | (apply Exists.intro
                  refine ⟨fun wq hwq => ?_, hK _ ?_⟩
                  · have hcq := hwq.cellS
                    go_simp
                    first
                    | exact ⟨Ext.refl _, rfl⟩
                    | exact ⟨Ext.refl _, HPF.out wq (hE2.trans hwq)⟩
                  clear hK K))
    refine wpX_nil (fun wz hwz => ?_)
    go_wp2
    go_ret2
    exact ⟨_, rfl, hE2.trans hwz⟩

set_option maxRecDepth 100000 in
set_option maxHeartbeats 8000000 in
theorem gby_spec (w : World) (rule sz : Int) (a : Option Addr) (c : Nat) (vs : List Vt) (k : Nat) (hR : RdV w a vs) :
    Calls Tryz.prog 28 #[.int .i64 rule, .agg #[.int .i64 sz, .slice a vs.length c], .int .i64 k] w fun e w' => ∃ v, e = .returned (.tuple #[v, .bool (gainB rule sz vs k)]) ∧ Ext w w' := by
  have q0 := new0 w (.int .i64 sz) [.slice a vs.length c] 29
  have q1 := new1 w (.int .i64 sz) (.slice a vs.length c) [] 29
  have HP : Hid (∀ w', Ext w w' → Calls Tryz.prog 68 #[.int .i64 rule, .agg #[.int .i64 sz, .slice a vs.length c]] w' fun e w'' => e = .returned (.bool (plyB rule sz vs)) ∧ Ext w' w'') := fun w' hw' => ply_spec w' rule sz a c vs (hR.ext hw')
  have HGV : Hid (gnB rule sz vs k = (plyB rule sz vs && inR k 0 ((vs.length : Int) - 1))) := rfl
  cases hp : plyB rule sz vs
  · have hg : gainB rule sz vs k = false := by unfold gainB; rw [HGV.out, hp]; rfl
    rw [hp] at HP
    rw [hg]
    clear hp hg
    go_enter Tryz.func28, Tryz.ntmps28
    go_wp2_with (go_at_call 68; refine (HP.out _ (by repeat (first | exact Ext.refl _ | assumption | refine Ext.alloc ?_ _ | refine Ext.drew ?_ | refine Ext.trans ?_ (by assumption)))).mono ?_; rintro e w1 ⟨rfl, hw1⟩; have q0 := Ext.keep (w' := w1) (by repeat (first | exact Ext.refl _ | assumption | refine Ext.alloc ?_ _ | refine Ext.drew ?_ | refine Ext.trans ?_ (by assumption))) q0; have q1 := Ext.keep (w' := w1) (by repeat (first | exact Ext.refl _ | assumption | refine Ext.alloc ?_ _ | refine Ext.drew ?_ | refine Ext.trans ?_ (by assumption))) q1)
    go_ret2
    exact ⟨_, rfl, (by repeat (first | exact Ext.refl _ | assumption | refine Ext.alloc ?_ _ | refine Ext.drew ?_ | refine Ext.trans ?_ (by assumption)))⟩
  have hvl := (prof_small (ply_ok hp).1).1
  have HY : Hid (wrap64 ((vs.length : Int) - 1) = (vs.length : Int) - 1) := IntWalk.wrap64_in _ (by omega)
  have HIN : Hid (∀ w', Calls Tryz.prog 69 #[.int .i64 k, .int .i64 0, .int .i64 ((vs.length : Int) - 1)] w' fun e w'' => e = .returned (.bool (inR k 0 ((vs.length : Int) - 1))) ∧ Ext w' w'') := fun w' => in_spec k 0 ((vs.length : Int) - 1) w'
  cases hi : inR (k : Int) 0 ((vs.length : Int) - 1)
  · have hg : gainB rule sz vs k = false := by unfold gainB; rw [HGV.out, hi, Bool.and_false]; rfl
    rw [hp] at HP
    rw [hi] at HIN
    rw [hg]
    clear hp hi hg
    go_enter Tryz.func28, Tryz.ntmps28
    have y0 := HY.out
    go_wp2_with (first | (go_at_call 68; refine (HP.out _ (by repeat (first | exact Ext.refl _ | assumption | refine Ext.alloc ?_ _ | refine Ext.drew ?_ | refine Ext.trans ?_ (by assumption)))).mono ?_; rintro e w1 ⟨rfl, hw1⟩; have q0 := Ext.keep (w' := w1) (by repeat (first | exact Ext.refl _ | assumption | refine Ext.alloc ?_ _ | refine Ext.drew ?_ | refine Ext.trans ?_ (by assumption))) q0; have q1 := Ext.keep (w' := w1) (by repeat (first | exact Ext.refl _ | assumption | refine Ext.alloc ?_ _ | refine Ext.drew ?_ | refine Ext.trans ?_ (by assumption))) q1) | (go_at_call 69; refine (HIN.out _).mono ?_; rintro e w1 ⟨rfl, hw1⟩; have q0 := Ext.keep (w' := w1) (by repeat (first | exact Ext.refl _ | assumption | refine Ext.alloc ?_ _ | refine Ext.drew ?_ | refine Ext.trans ?_ (by assumption))) q0; have q1 := Ext.keep (w' := w1) (by repeat (first | exact Ext.refl _ | assumption | refine Ext.alloc ?_ _ | refine Ext.drew ?_ | refine Ext.trans ?_ (by assumption))) q1))
    go_ret2
    exact ⟨_, rfl, (by repeat (first | exact Ext.refl _ | assumption | refine Ext.alloc ?_ _ | refine Ext.drew ?_ | refine Ext.trans ?_ (by assumption)))⟩
  have hg : gnB rule sz vs k = true := by rw [HGV.out, hp, hi]; rfl
  rw [hp] at HP
  rw [hi] at HIN
  clear hp hi HGV
  obtain ⟨n, kn, x, rfl, hkk, h0, n4, r1, r2, hx⟩ := gn_ok hg
  obtain rfl : k = kn := by omega
  have hk := prof_ok_at h0 hx
  have hxl := (rk_len hk).2
  have hga : gainB rule n vs k = prefB x.1 (repO (gnW rule n vs k) x.1 n).2 (winB rule n vs) := by
    unfold gainB betB
    rw [hg, Bool.true_and, show vs.getD k ([], 0) = x by simp [List.getD, hx], Int.toNat_natCast]
  have HRP : Hid (∀ w' ar cr, Ext w w' → RdI w' ar x.1 → Calls Tryz.prog 70 #[.int .i64 rule, .agg #[.int .i64 n, .slice a vs.length c], .int .i64 k, .slice ar x.1.length cr] w' fun e w'' => ∃ v, e = .returned (.tuple #[v, .int .i64 (repO (gnW rule n vs k) x.1 n).2]) ∧ OwnI w'' w'.heap.size v (repO (gnW rule n vs k) x.1 n).1 ∧ Ext w' w'') := fun w' ar cr hw' hRy => rep_spec w' rule n a ar c cr k vs x x.1 hx (hR.ext hw') hRy hxl h0
  have HWP : Hid (∀ w', Ext w w' → Calls Tryz.prog 72 #[.int .i64 rule, .agg #[.int .i64 n, .slice a vs.length c]] w' fun e w'' => e = .returned (.int .i64 (winB rule n vs)) ∧ Ext w' w'') := fun w' hw' => winb_spec w' rule n a c vs (hR.ext hw')
  have hkl := lt_of_at hx
  obtain ⟨b, off, a', c', rfl, c0, c1, hc', hRx⟩ := hR.at_ hx
  rw [hga]
  generalize repO (gnW rule n vs k) x.1 n = ro at HRP ⊢
  generalize winB rule n vs = y2 at HWP ⊢
  obtain ⟨y1, hy1⟩ : ∃ y, y = ro.2 := ⟨_, rfl⟩
  rw [← hy1] at HRP ⊢
  clear hy1
  have HPF : Hid (∀ w', Ext w w' → Calls Tryz.prog 71 #[.slice a' x.1.length c', .int .i64 y1, .int .i64 y2] w' fun e w'' => e = .returned (.bool (prefB x.1 y1 y2)) ∧ Ext w' w'') := fun w' hw' => pref_spec w' a' c' x.1 y1 y2 (hRx.ext hw') (by omega)
  clear hg hga h0 r1 r2 hx hk hkk
  have q0 := new0 w (.int .i64 n) [.slice (some ⟨b, off, none⟩) vs.length c] 29
  have q1 := new1 w (.int .i64 n) (.slice (some ⟨b, off, none⟩) vs.length c) [] 29
  cases hp : prefB x.1 y1 y2
  all_goals
    rw [hp] at HPF
    go_enter Tryz.func28, Tryz.ntmps28
    have y0 := HY.out
    go_wp2_with (first | (go_at_call 68; refine (HP.out _ (by repeat (first | exact Ext.refl _ | assumption | refine Ext.alloc ?_ _ | refine Ext.drew ?_ | refine Ext.trans ?_ (by assumption)))).mono ?_; rintro e w1 ⟨rfl, hw1⟩; have q0 := Ext.keep (w' := w1) (by repeat (first | exact Ext.refl _ | assumption | refine Ext.alloc ?_ _ | refine Ext.drew ?_ | refine Ext.trans ?_ (by assumption))) q0; have q1 := Ext.keep (w' := w1) (by repeat (first | exact Ext.refl _ | assumption | refine Ext.alloc ?_ _ | refine Ext.drew ?_ | refine Ext.trans ?_ (by assumption))) q1) | (go_at_call 69; refine (HIN.out _).mono ?_; rintro e w1 ⟨rfl, hw1⟩; have q0 := Ext.keep (w' := w1) (by repeat (first | exact Ext.refl _ | assumption | refine Ext.alloc ?_ _ | refine Ext.drew ?_ | refine Ext.trans ?_ (by assumption))) q0; have q1 := Ext.keep (w' := w1) (by repeat (first | exact Ext.refl _ | assumption | refine Ext.alloc ?_ _ | refine Ext.drew ?_ | refine Ext.trans ?_ (by assumption))) q1))
    have hw : Ext w w1 := (by repeat (first | exact Ext.refl _ | assumption | refine Ext.alloc ?_ _ | refine Ext.drew ?_ | refine Ext.trans ?_ (by assumption)))
    have c0 := hw.keep c0
    clear HP HIN y0
    go_wp2_with fail
    refine wp_region_X (by kernel_rfl) (by kernel_rfl) ?_
    repeat' (refine wpX_stepQ (fun K hK => ?_)
             go_simp
             try (rw [if_neg (by intro h; simp [undef] at h)])
             try split
             all_goals
               first
               | (refine hK _ ?_
                  clear hK K)
               | (apply Exists.intro
                  refine ⟨fun wq hwq => ?_, hK _ ?_⟩
                  · have hcq := hwq.cellS
                    go_simp
                    first
                    | exact ⟨Ext.refl _, rfl⟩
                  clear hK K))
    refine wpX_stepS rfl (by kernel_rfl) (fun K hK wq hwq => ?_)
    go_simp
    refine (HRP.out _ a' c' (hw.trans (by repeat (first | exact Ext.refl _ | assumption | refine Ext.alloc ?_ _ | refine Ext.drew ?_ | refine Ext.trans ?_ (by assumption)))) (hRx.ext (hw.trans (by repeat (first | exact Ext.refl _ | assumption | refine Ext.alloc ?_ _ | refine Ext.drew ?_ | refine Ext.trans ?_ (by assumption)))))).mono ?_
    rintro e w4 ⟨v, rfl, hv, hw4⟩
    refine ⟨hw4, hK _ _ ?_⟩
    clear hK K
    repeat' (refine wpX_stepQ (fun K hK => ?_)
             go_simp
             try (rw [if_neg (by intro h; simp [undef] at h)])
             try split
             all_goals
               first
               | (refine hK _ ?_
                  clear hK K)
               | (apply Exists.intro
                  refine ⟨fun wq hwq => ?_, hK _ ?_⟩
                  · have hcq := hwq.cellS
                    go_simp
                    first
                    | exact ⟨Ext.refl _, rfl⟩
                  clear hK K))
    refine wpX_nil (fun wz hwz => ?_)
    have hE3 : Ext w1 wz := (by repeat (first | exact Ext.refl _ | assumption | refine Ext.alloc ?_ _ | refine Ext.drew ?_ | refine Ext.trans ?_ (by assumption)))
    have q0 := hE3.keep q0
    have q1 := hE3.keep q1
    have c0 := hE3.keep c0
    have hw3 : Ext w wz := hw.trans hE3
    go_wp2_with fail
    refine wp_region_X (by kernel_rfl) (by kernel_rfl) ?_
    repeat' (refine wpX_stepQ (fun K hK => ?_)
             go_simp
             try (rw [if_neg (by intro h; simp [undef] at h)])
             try split
             all_goals
               first
               | (refine hK _ ?_
                  clear hK K)
               | (apply Exists.intro
                  refine ⟨fun wq hwq => ?_, hK _ ?_⟩
                  · have hcq := hwq.cellS
                    go_simp
                    first
                    | exact ⟨Ext.refl _, rfl⟩
                    | exact ⟨Ext.refl _, HWP.out _ (hw3.trans (by repeat (first | exact Ext.refl _ | assumption | refine Ext.alloc ?_ _ | refine Ext.drew ?_ | refine Ext.trans ?_ (by assumption))))⟩
                  clear hK K))
    repeat' (refine wpX_stepQ (fun K hK => ?_)
             go_simp
             try (rw [if_neg (by intro h; simp [undef] at h)])
             try split
             all_goals
               first
               | (refine hK _ ?_
                  clear hK K)
               | (apply Exists.intro
                  refine ⟨fun wq hwq => ?_, hK _ ?_⟩
                  · have hcq := hwq.cellS
                    go_simp
                    first
                    | exact ⟨Ext.refl _, rfl⟩
                    | exact ⟨Ext.refl _, HPF.out _ (hw3.trans (by repeat (first | exact Ext.refl _ | assumption | refine Ext.alloc ?_ _ | refine Ext.drew ?_ | refine Ext.trans ?_ (by assumption))))⟩
                  clear hK K))
    refine wpX_nil (fun wy hwy => ?_)
    go_wp2
    go_ret2
    exact ⟨_, rfl, hw3.trans (by repeat (first | exact Ext.refl _ | assumption | refine Ext.alloc ?_ _ | refine Ext.drew ?_ | refine Ext.trans ?_ (by assumption)))⟩

end Go.Proofs.YtilcdnkkabmbfaaGreat
