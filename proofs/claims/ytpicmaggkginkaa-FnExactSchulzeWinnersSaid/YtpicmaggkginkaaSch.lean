/- Schulze's winners. -/
import Derived.Test.YtpicmaggkginkaaPth
import Derived.Test.YtpicmaggkginkaaCond
import Derived.Test.YtpicmaggkginkaaWth
namespace Go.Proofs.Ytpicmaggkginkaa
open Go.RowKit

def schP (n : Nat) (vs : List Vt) (i j : Nat) : Bool := decide (pthV n vs j i ≤ pthV n vs i j)
def schO (sz : Int) (vs : List Vt) : List Int := thoseO sz vs (schP sz.toNat vs)
set_option maxRecDepth 100000 in
theorem schO_len (sz : Int) (vs : List Vt) : (schO sz vs).length ≤ 5 := by
  unfold schO thoseO
  cases h0 : profOk sz vs
  · simp
  · obtain ⟨n, rfl, n1, n2⟩ := prof_nat h0
    have := upL_len n (thoseP n (schP n vs))
    simp; omega

set_option maxRecDepth 100000 in
theorem prof_of {n : Nat} {vs : List Vt} (n1 : 1 ≤ n) (n5 : n ≤ 5) (h : SmallV n vs) : profOk n vs = true := by
  unfold profOk
  rw [inR_iff.2 (show 1 ≤ (n : Int) ∧ (n : Int) ≤ 5 by omega), decide_eq_true h.1, Bool.true_and, Bool.true_and, List.all_eq_true]
  intro x hx
  obtain ⟨h1, h2, h3⟩ := h.2 x hx
  unfold vtOk
  rw [h1, inR_iff.2 ⟨h2, h3⟩]; rfl
set_option maxRecDepth 100000 in
/-- Two cells of a table that faces itself. -/
theorem WrSS.pair {w : World} {B : Nat} {a : Option Addr} {n c : Nat} {M : Nat → Nat → Int} (h : WrSS w B (.slice a n c) (tabL n M)) {i j : Nat} (hi : i < n) (hj : j < n) :
    ∃ g bi ci bj cj oi oj, a = some ⟨g, 0, none⟩ ∧ w.cell? ⟨g, i, none⟩ = some (.slice (some ⟨bi, oi, none⟩) n ci) ∧ w.cell? ⟨g, j, none⟩ = some (.slice (some ⟨bj, oj, none⟩) n cj) ∧
      w.cell? ⟨bi, oi + j, none⟩ = some (.int .i64 (M i j)) ∧ w.cell? ⟨bj, oj + i, none⟩ = some (.int .i64 (M j i)) := by
  obtain ⟨g, c1, ai, ci, e1, h1, _, r1⟩ := h.at_ (tabL_at (M := M) hi)
  obtain ⟨g2, c2, aj, cj, e2, h2, _, r2⟩ := h.at_ (tabL_at (M := M) hj)
  injection e1 with e1
  subst e1
  injection e2 with e2
  injection e2 with e2
  injection e2 with e2
  subst e2
  rw [rowL_len] at h1 h2
  obtain ⟨bi, oi, rfl, d1⟩ := r1.at_ (rowL_at (f := M i) hj)
  obtain ⟨bj, oj, rfl, d2⟩ := r2.at_ (rowL_at (f := M j) hi)
  exact ⟨g, bi, ci, bj, cj, oi, oj, rfl, h1, h2, d1, d2⟩

set_option maxRecDepth 100000 in
set_option maxHeartbeats 1000000 in
theorem schOne (w : World) (gs n i j : Nat) (vs : List Vt) (B : Nat) (a : Option Addr) (c : Nat) (h : WrSS w B (.slice a n c) (tabL n (pthV n vs))) (hg : w.cell? ⟨gs, 0, none⟩ = some (.slice a n c)) (hi : i < n) (hj : j < n) :
    Calls Try.prog 61 #[.int .i64 i, .int .i64 j, .pointer (some ⟨gs, 0, none⟩)] w fun e w' => e = .returned (.bool (schP n vs i j)) ∧ Ext w w' := by
  obtain ⟨g, bi, ci, bj, cj, oi, oj, rfl, h1, h2, d1, d2⟩ := h.pair hi hj
  clear h
  go_enter Try.func61, Try.ntmps61
  go_wp2
  refine wp_region_X (by kernel_rfl) (by kernel_rfl) ?_
  repeat' (refine wpX_stepQ (fun K hK => ?_)
           go_simp
           try (rw [if_neg (by intro h; simp [undef] at h)])
           try split
           all_goals
             first
             | (refine hK _ ?_
                clear hK K)
             | (apply Exists.intro
                refine ⟨fun wq hwq => ?_, hK _ ?_⟩
                · have hcq := hwq.cellS
                  go_simp
                  first
                  | exact ⟨Ext.refl _, rfl⟩
                clear hK K))
  refine wpX_nil (fun wz hwz => ?_)
  go_wp2
  go_ret
  exact ⟨ret_bool (by simp [schP]), (by repeat (first | exact Ext.refl _ | assumption | refine Ext.alloc ?_ _ | refine Ext.drew ?_ | refine Ext.trans ?_ (by assumption)))⟩

set_option maxRecDepth 100000 in
set_option maxHeartbeats 2000000 in
theorem sch_impl (w : World) (sz : Int) (a : Option Addr) (c : Nat) (vs : List Vt) (hR : RdV w a vs) :
    Calls Try.prog 25 #[.agg #[.int .i64 sz, .slice a vs.length c]] w fun e w' => ∃ v, e = .returned v ∧ OwnI w' w.heap.size v (schO sz vs) ∧ Ext w w' := by
  have q0 := new0 w (.int .i64 sz) [.slice a vs.length c] 30
  have q1 := new1 w (.int .i64 sz) (.slice a vs.length c) [] 30
  go_enter Try.func25, Try.ntmps25
  go_wp2_with fail
  refine (pth_impl _ sz a c vs (hR.ext (by repeat (first | exact Ext.refl _ | assumption | refine Ext.alloc ?_ _ | refine Ext.drew ?_ | refine Ext.trans ?_ (by assumption))))).mono ?_
  rintro e w1 ⟨v, rfl, hv, hw1⟩
  have q0 := Ext.keep (w' := w1) (by repeat (first | exact Ext.refl _ | assumption | refine Ext.alloc ?_ _ | refine Ext.drew ?_ | refine Ext.trans ?_ (by assumption))) q0
  have q1 := Ext.keep (w' := w1) (by repeat (first | exact Ext.refl _ | assumption | refine Ext.alloc ?_ _ | refine Ext.drew ?_ | refine Ext.trans ?_ (by assumption))) q1
  have hv0 := hv
  obtain ⟨av, cv, rfl, _, _⟩ := hv
  obtain ⟨L, hL⟩ : ∃ L : Nat, L = (pthO sz vs).length := ⟨_, rfl⟩
  rw [← hL] at hv0 ⊢
  have p0 := new0 w1 (.slice av L cv) [] 26
  have hE : Ext w (w1.alloc (.cells #[.slice av L cv] 26)) := (by repeat (first | exact Ext.refl _ | assumption | refine Ext.alloc ?_ _ | refine Ext.drew ?_ | refine Ext.trans ?_ (by assumption)))
  have HL := hide hL
  clear hL
  go_wp2_with fail
  have q0' := Ext.keep (Ext.new w1 (.cells #[.slice av L cv] 26)) q0
  have q1' := Ext.keep (Ext.new w1 (.cells #[.slice av L cv] 26)) q1
  refine (those_impl 61 #[.pointer (some ⟨w1.heap.size, 0, none⟩)] (schP sz.toNat vs) _ sz a c vs (hR.ext (by repeat (first | exact Ext.refl _ | assumption | refine Ext.alloc ?_ _ | refine Ext.drew ?_ | refine Ext.trans ?_ (by assumption)))) Try.call61 (fun n i j w' hn hn5 hS hi hj hw' => ?_)).mono ?_
  · subst hn
    have h0 := prof_of (by omega) hn5 hS
    · have e : pthO n vs = tabL n (pthV n vs) := by simp [pthO, h0]
      have hLn : L = n := by rw [HL.out, e, tabL_len]
      rw [e, hLn] at hv0
      rw [hLn] at p0
      exact schOne w' w1.heap.size n i j vs _ av cv ((hv0.ext (Ext.new w1 _)).ext (by rw [hLn] at hw'; exact hw')) (by rw [hLn] at hw'; exact hw'.keep p0) hi hj
  rintro e w2 ⟨v2, rfl, hv2, hw2⟩
  go_wp2
  go_ret
  exact ⟨_, rfl, hv2.base (Ext.size (by repeat (first | exact Ext.refl _ | assumption | refine Ext.alloc ?_ _ | refine Ext.drew ?_ | refine Ext.trans ?_ (by assumption)))), (by repeat (first | exact Ext.refl _ | assumption | refine Ext.alloc ?_ _ | refine Ext.drew ?_ | refine Ext.trans ?_ (by assumption)))⟩

set_option maxRecDepth 100000 in
theorem sch_those (n : Nat) (vs : List Vt) (i : Nat) : thoseP n (schP n vs) i = allN n (schP n vs i) := by
  have h : (fun j => decide (i = j) || schP n vs i j) = schP n vs i := by
    funext j
    by_cases e : i = j
    · subst e; simp [schP]
    · simp [e]
  unfold thoseP
  rw [h]

set_option maxRecDepth 100000 in
set_option maxHeartbeats 4000000 in
theorem sch_spec (w : World) (sz : Int) (a : Option Addr) (c : Nat) (vs : List Vt) (hR : RdV w a vs) :
    Calls Try.prog 24 #[.agg #[.int .i64 sz, .slice a vs.length c]] w fun e w' => ∃ v, e = .returned v ∧ OwnI w' w.heap.size v (schO sz vs) ∧ Ext w w' := by
  have q0 := new0 w (.int .i64 sz) [.slice a vs.length c] 30
  have q1 := new1 w (.int .i64 sz) (.slice a vs.length c) [] 30
  cases h0 : profOk sz vs
  · go_enter Try.func24, Try.ntmps24
    go_wp2_with (go_at_call 51; refine (prof_spec _ _ _ _ _ (hR.ext (by repeat (first | exact Ext.refl _ | assumption | refine Ext.alloc ?_ _ | refine Ext.drew ?_ | refine Ext.trans ?_ (by assumption))))).mono ?_; rintro e w1 ⟨rfl, hw1⟩; have q0 := Ext.keep (w' := w1) (by repeat (first | exact Ext.refl _ | assumption | refine Ext.alloc ?_ _ | refine Ext.drew ?_ | refine Ext.trans ?_ (by assumption))) q0; have q1 := Ext.keep (w' := w1) (by repeat (first | exact Ext.refl _ | assumption | refine Ext.alloc ?_ _ | refine Ext.drew ?_ | refine Ext.trans ?_ (by assumption))) q1)
    go_ret
    exact ⟨_, rfl, by simp [schO, thoseO, h0]; exact OwnI.nil _ _, (by repeat (first | exact Ext.refl _ | assumption | refine Ext.alloc ?_ _ | refine Ext.drew ?_ | refine Ext.trans ?_ (by assumption)))⟩
  obtain ⟨n, rfl, n1, n2⟩ := prof_nat h0
  have HP : Hid (pthO n vs = tabL n (pthV n vs)) := hide (by simp [pthO, h0])
  go_enter Try.func24, Try.ntmps24
  go_wp2_with (go_at_call 51; refine (prof_spec _ _ _ _ _ (hR.ext (by repeat (first | exact Ext.refl _ | assumption | refine Ext.alloc ?_ _ | refine Ext.drew ?_ | refine Ext.trans ?_ (by assumption))))).mono ?_; rintro e w1 ⟨rfl, hw1⟩; have q0 := Ext.keep (w' := w1) (by repeat (first | exact Ext.refl _ | assumption | refine Ext.alloc ?_ _ | refine Ext.drew ?_ | refine Ext.trans ?_ (by assumption))) q0; have q1 := Ext.keep (w' := w1) (by repeat (first | exact Ext.refl _ | assumption | refine Ext.alloc ?_ _ | refine Ext.drew ?_ | refine Ext.trans ?_ (by assumption))) q1)
  refine (pth_spec _ n a c vs (hR.ext (by repeat (first | exact Ext.refl _ | assumption | refine Ext.alloc ?_ _ | refine Ext.drew ?_ | refine Ext.trans ?_ (by assumption))))).mono ?_
  rintro e w2 ⟨v, rfl, hv, hw2⟩
  have hw : Ext w w2 := (by repeat (first | exact Ext.refl _ | assumption | refine Ext.alloc ?_ _ | refine Ext.drew ?_ | refine Ext.trans ?_ (by assumption)))
  rw [HP.out] at hv
  have hv0 := hv
  obtain ⟨av, cv, rfl, _, _⟩ := hv
  rw [tabL_len] at hv0 ⊢
  go_wp2_with fail
  have hO := OwnI.made0 w2
  have h20 := Ext.new w2 (.cells #[] 3)
  obtain ⟨wb, hwb⟩ : ∃ wb : World, wb = w2 := ⟨_, rfl⟩
  subst hwb
  generalize wb.alloc (.cells #[] 3) = W0 at hO h20 ⊢
  go_loopw [4, 5, 6, 7, 16, 19, 20, 21] (fun v _ _ _ i _ _ _ wr => ∃ k : Nat, k ≤ n ∧ i = .int .i64 k ∧ OwnI wr wb.heap.size v (upL k (thoseP n (schP n vs))) ∧ Ext wb wr) (fun _ _ _ _ i _ _ _ _ => n - (intOf i).toNat)
  case atStart => exact ⟨0, Nat.zero_le _, rfl, hO, h20⟩
  case round =>
    clear hO h20
    obtain ⟨i, hi, rfl, hown, hwr⟩ := hrel
    have hul := upL_len i (thoseP n (schP n vs))
    by_cases hit : i < n
    · go_wp2_with fail
      obtain ⟨wo, hwo⟩ : ∃ wo : World, wo = wr := ⟨_, rfl⟩
      subst hwo
      go_loopw [6, 7, 21] (fun g _ m wr => ∃ k : Nat, k ≤ n ∧ m = .int .i64 k ∧ g = .bool (allN k (schP n vs i)) ∧ Ext wo wr) (fun _ _ m _ => n - (intOf m).toNat)
      case atStart => exact ⟨0, Nat.zero_le _, rfl, rfl, Ext.refl _⟩
      case round =>
        obtain ⟨m, hm, rfl, rfl, hwr'⟩ := hrel
        by_cases hmt : m < n
        · cases c1 : allN m (schP n vs i)
          · go_wp2
            refine wp_region_X (by kernel_rfl) (by kernel_rfl) ?_
            repeat' (refine wpX_stepQ (fun K hK => ?_)
                     go_simp
                     try (rw [if_neg (by intro h; simp [undef] at h)])
                     try split
                     all_goals
                       first
                       | (refine hK _ ?_
                          clear hK K)
                       | (apply Exists.intro
                          refine ⟨fun wq hwq => ?_, hK _ ?_⟩
                          · have hcq := hwq.cellS
                            go_simp
                            first
                            | exact ⟨Ext.refl _, rfl⟩
                          clear hK K))
            refine wpX_nil (fun wz hwz => ?_)
            go_wp2
            exact ⟨⟨m + 1, by omega, by go_num, by rw [allN_succ, c1]; rfl, (by repeat (first | exact Ext.refl _ | assumption | refine Ext.alloc ?_ _ | refine Ext.drew ?_ | refine Ext.trans ?_ (by assumption)))⟩, by simp [intOf]; omega⟩
          · obtain ⟨g, bi, ci, bj, cj, oi, oj, hav, h1, h2, d1, d2⟩ := (hv0.ext (hwr.trans hwr')).pair hit hmt
            subst hav
            go_wp2
            refine wp_region_X (by kernel_rfl) (by kernel_rfl) ?_
            repeat' (refine wpX_stepQ (fun K hK => ?_)
                     go_simp
                     try (rw [if_neg (by intro h; simp [undef] at h)])
                     try split
                     all_goals
                       first
                       | (refine hK _ ?_
                          clear hK K)
                       | (apply Exists.intro
                          refine ⟨fun wq hwq => ?_, hK _ ?_⟩
                          · have hcq := hwq.cellS
                            go_simp
                            first
                            | exact ⟨Ext.refl _, rfl⟩
                          clear hK K))
            refine wpX_nil (fun wz hwz => ?_)
            go_wp2
            exact ⟨⟨m + 1, by omega, by go_num, by rw [allN_succ, c1]; simp [schP], (by repeat (first | exact Ext.refl _ | assumption | refine Ext.alloc ?_ _ | refine Ext.drew ?_ | refine Ext.trans ?_ (by assumption)))⟩, by simp [intOf]; omega⟩
        · have hmn : m = n := by omega
          have hown := hown.ext hwr'
          have HT : allN m (schP n vs i) = thoseP n (schP n vs) i := by rw [hmn, sch_those]
          rw [HT]
          clear HT
          cases h1 : thoseP n (schP n vs) i
          · go_wp2
            exact ⟨⟨i + 1, by omega, by go_num, by rw [upL_succ, h1]; simpa using hown, (by repeat (first | exact Ext.refl _ | assumption | refine Ext.alloc ?_ _ | refine Ext.drew ?_ | refine Ext.trans ?_ (by assumption)))⟩, by simp [intOf]; omega⟩
          · go_wp2_with (at_builtin; refine wpList_appI wb _ rfl _ _ rfl _ (upL i (thoseP n (schP n vs))) _ rfl (hown.ext (by repeat (first | exact Ext.refl _ | assumption | refine Ext.alloc ?_ _ | refine Ext.drew ?_ | refine Ext.trans ?_ (by assumption)))) (by repeat (first | exact Ext.refl _ | assumption | refine Ext.alloc ?_ _ | refine Ext.drew ?_ | refine Ext.trans ?_ (by assumption))) rfl (by omega) ?_; intro v' w3 hown3 hw3)
            exact ⟨⟨i + 1, by omega, by go_num, by rw [upL_succ, h1]; exact hown3, (by repeat (first | exact Ext.refl _ | assumption | refine Ext.alloc ?_ _ | refine Ext.drew ?_ | refine Ext.trans ?_ (by assumption)))⟩, by simp [intOf]; omega⟩
    · have hin : i = n := by omega
      go_wp2
      go_ret
      refine ⟨_, rfl, ?_, hw.trans hwr⟩
      have he : schO n vs = upL i (thoseP n (schP n vs)) := by simp [schO, thoseO, h0, hin]
      rw [he]
      exact hown.base hw.size

end Go.Proofs.Ytpicmaggkginkaa
