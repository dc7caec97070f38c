/- A candidate with a majority of first places. -/
import Derived.Test.YtpicmaggkginkaaSco
import Derived.Test.YtpicmaggkginkaaCount
namespace Go.Proofs.Ytpicmaggkginkaa
open Go.RowKit

def fstV (vs : List Vt) (a : Nat) : Int := plcV vs a 0
set_option maxRecDepth 100000 in
theorem fstV_bd {n : Int} {vs : List Vt} (hS : SmallV n vs) (a : Nat) : 0 ≤ fstV vs a ∧ fstV vs a ≤ 24000 := sumV_bd' hS

set_option maxRecDepth 100000 in
set_option maxHeartbeats 4000000 in
theorem col_spec (w : World) (n : Nat) (a : Option Addr) (c : Nat) (vs : List Vt) (hR : RdV w a vs) (h0 : profOk n vs = true) :
    Calls Try.prog 151 #[.agg #[.int .i64 n, .slice a vs.length c], .bool false] w fun e w' => ∃ v, e = .returned v ∧ OwnI w' w.heap.size v (rowL n (fstV vs)) ∧ Ext w w' := by
  obtain ⟨n1, n2⟩ := prof_size h0
  have HP : Hid (plcO n vs = tabL n (plcV vs)) := hide (by simp [plcO, h0])
  go_enter Try.func151, Try.ntmps151
  go_wp2_with fail
  have hO := (OwnI.made0 (w.alloc (.cells #[.int .i64 n, .slice a vs.length c] 30)))
  have h20 : Ext w ((w.alloc (.cells #[.int .i64 n, .slice a vs.length c] 30)).alloc (.cells #[] 3)) := (by repeat (first | exact Ext.refl _ | assumption | refine Ext.alloc ?_ _ | refine Ext.drew ?_ | refine Ext.trans ?_ (by assumption)))
  have hO := hO.base (show w.heap.size ≤ _ by simp)
  have hs1 : (w.alloc (.cells #[.int .i64 n, .slice a vs.length c] 30)).heap.size = w.heap.size + 1 := by simp
  have hs2 : ((w.alloc (.cells #[.int .i64 n, .slice a vs.length c] 30)).alloc (.cells #[] 3)).heap.size = w.heap.size + 2 := by simp
  rw [hs1] at hO
  generalize hW : (w.alloc (.cells #[.int .i64 n, .slice a vs.length c] 30)).alloc (.cells #[] 3) = W0 at hO h20 hs2 ⊢
  refine (plc_spec W0 n a c vs (hR.ext h20)).mono ?_
  rintro e w1 ⟨v, rfl, hv, hw1⟩
  rw [HP.out, hs2] at hv
  have hvl := tabL_len n (plcV vs)
  have hO := hO.ext hw1
  have hw := h20.trans hw1
  have hgw := hw1.size
  rw [hs2] at hgw
  clear hW hw1 h20 HP hs1 hs2
  have hv' := hv
  obtain ⟨av, cv, rfl, _, _⟩ := hv'
  rw [hvl] at hv ⊢
  clear hvl
  have hsz : w.heap.size ≤ w1.heap.size := hw.size
  obtain ⟨wb, hwb⟩ : ∃ wb : World, wb = w1 := ⟨_, rfl⟩
  subst hwb
  go_wp2_with fail
  go_loopw [5, 7, 12] (fun v _ i wr => ∃ j : Nat, j ≤ n ∧ i = .int .i64 j ∧ OwnI wr w.heap.size v (rowL j (fstV vs)) ∧ Ext w wr ∧ Keeps (w.heap.size + 2) wb.heap.size wb wr ∧ Hid (∀ k, v.ownBlock = some k → k < w.heap.size + 2 ∨ wb.heap.size ≤ k)) (fun _ _ i _ => n - (intOf i).toNat)
  case atStart => exact ⟨0, Nat.zero_le _, rfl, hO, hw, Keeps.refl _ _ _, fun k hk => by simp only [Value.ownBlock, Option.some.injEq] at hk; omega⟩
  case round =>
    clear hO hw
    obtain ⟨i, hi, rfl, hown, hw, hkp, hob⟩ := hrel
    have hrl := rowL_len i (fstV vs)
    by_cases hit : i < n
    · obtain ⟨g, c2, a', c', hav, d0, hc', hRr⟩ := (hv.keeps hkp (Nat.le_refl _)).at_ (tabL_at (M := plcV vs) hit)
      rw [rowL_len] at d0 hc'
      injection hav with hav hav2 hav3
      subst hav
      clear hav2 hav3
      obtain ⟨b2, off2, rfl, e0⟩ := hRr.at_ (rowL_at (f := plcV vs i) (show 0 < n by omega))
      rw [Nat.add_zero] at e0
      have hkz := hkp.1
      have hn0 : 0 < n := by omega
      go_wp2_with (at_builtin; refine wpList_appF w.heap.size _ rfl _ _ rfl _ (rowL i (fstV vs)) _ rfl (by exact hown) (by omega) rfl (by omega) ?_; intro v' w3 hown3 hg3 hf3)
      exact ⟨⟨i + 1, by omega, by go_num, by rw [rowL_succ]; exact hown3, Ext.grown hw hg3 (ownsRow_block hown), hkp.grown hg3 (by omega) hob.out, hf3.out hob.out (by omega)⟩, by simp [intOf]; omega⟩
    · have hin : i = n := by omega
      go_wp2
      go_ret
      rw [hin] at hown
      exact ⟨_, rfl, hown, hw⟩

set_option maxRecDepth 100000 in
set_option maxHeartbeats 1000000 in
theorem fst_spec (w : World) (n : Nat) (a : Option Addr) (c : Nat) (vs : List Vt) (hR : RdV w a vs) (h0 : profOk n vs = true) :
    Calls Try.prog 121 #[.agg #[.int .i64 n, .slice a vs.length c]] w fun e w' => ∃ v, e = .returned v ∧ OwnI w' w.heap.size v (rowL n (fstV vs)) ∧ Ext w w' := by
  go_enter Try.func121, Try.ntmps121
  go_wp2_with fail
  refine (col_spec _ n a c vs (hR.ext (by repeat (first | exact Ext.refl _ | assumption | refine Ext.alloc ?_ _ | refine Ext.drew ?_ | refine Ext.trans ?_ (by assumption)))) h0).mono ?_
  rintro e w1 ⟨v, rfl, hv, hw1⟩
  go_wp2
  go_ret
  exact ⟨_, rfl, hv.base (Ext.size (by repeat (first | exact Ext.refl _ | assumption | refine Ext.alloc ?_ _ | refine Ext.drew ?_ | refine Ext.trans ?_ (by assumption)))), (by repeat (first | exact Ext.refl _ | assumption | refine Ext.alloc ?_ _ | refine Ext.drew ?_ | refine Ext.trans ?_ (by assumption)))⟩

def majO (sz : Int) (vs : List Vt) : Int := if profOk sz vs then findI (fun x => decide (allV vs < 2 * x)) (rowL sz.toNat (fstV vs)) else -1

def pluW (j : Nat) : Int := if j = 0 then 1 else 0
set_option maxRecDepth 100000 in
theorem pluG : GoodW pluW := pluF
set_option maxRecDepth 100000 in
set_option maxHeartbeats 1000000 in
theorem pluOne (w : World) (j : Nat) (hj : j ≤ 5) : Calls Try.prog 141 #[.int .i64 j] w fun e w' => e = .returned (.int .i64 (pluW j)) ∧ Ext w w' := by
  by_cases h0 : j = 0
  · subst h0
    go_enter Try.func141, Try.ntmps141
    go_wp2
    go_ret
    exact ⟨rfl, Ext.refl _⟩
  · go_enter Try.func141, Try.ntmps141
    go_wp2
    go_ret
    exact ⟨ret_int (by unfold pluW; rw [if_neg h0] <;> first | omega | (split <;> omega)), Ext.refl _⟩

set_option maxRecDepth 100000 in
set_option maxHeartbeats 1000000 in
theorem weightsOf_no (w : World) (m : Int) (K : Value) (h : inR m 1 5 = false) :
    Calls Try.prog 140 #[.int .i64 m, K] w fun e w' => e = .returned (.slice none 0 0) ∧ Ext w w' := by
  go_enter Try.func140, Try.ntmps140
  go_wp2_with (go_at_call 110; refine (in_impl _ _ _ _).mono ?_; rintro e w1 ⟨rfl, hw1⟩)
  go_ret
  exact ⟨rfl, (by repeat (first | exact Ext.refl _ | assumption | refine Ext.alloc ?_ _ | refine Ext.drew ?_ | refine Ext.trans ?_ (by assumption)))⟩

set_option maxRecDepth 100000 in
set_option maxHeartbeats 1000000 in
theorem plu_impl (w : World) (m : Int) :
    Calls Try.prog 92 #[.int .i64 m] w fun e w' => ∃ v, e = .returned v ∧ (∀ n : Nat, m = n → inR m 1 5 = true → OwnI w' w.heap.size v (rowL n pluW)) ∧ Ext w w' := by
  cases h : inR m 1 5
  · go_enter Try.func92, Try.ntmps92
    go_wp2_with fail
    refine (weightsOf_no _ _ _ h).mono ?_
    rintro e w1 ⟨rfl, hw1⟩
    go_wp2
    go_ret
    exact ⟨_, rfl, (fun n _ h => by cases h), (by repeat (first | exact Ext.refl _ | assumption | refine Ext.alloc ?_ _ | refine Ext.drew ?_ | refine Ext.trans ?_ (by assumption)))⟩
  · obtain ⟨h1, h2⟩ := inR_iff.1 h
    obtain ⟨n, rfl⟩ : ∃ n : Nat, m = n := ⟨m.toNat, by omega⟩
    go_enter Try.func92, Try.ntmps92
    go_wp2_with fail
    refine (weightsOf_impl 141 #[] pluW _ n (by omega) (by omega) Try.call141 (fun j w' hj _ => pluOne w' j (by omega))).mono ?_
    rintro e w1 ⟨v, rfl, hv, hw1⟩
    go_wp2
    go_ret
    refine ⟨_, rfl, fun k hk _ => ?_, (by repeat (first | exact Ext.refl _ | assumption | refine Ext.alloc ?_ _ | refine Ext.drew ?_ | refine Ext.trans ?_ (by assumption)))⟩
    have : n = k := by omega
    subst this
    exact hv

set_option maxRecDepth 100000 in
set_option maxHeartbeats 1000000 in
theorem sco_no (w : World) (sz : Int) (a : Option Addr) (c : Nat) (vs : List Vt) (u : Value) (hR : RdV w a vs) (h0 : profOk sz vs = false) :
    Calls Try.prog 137 #[.agg #[.int .i64 sz, .slice a vs.length c], u] w fun e w' => e = .returned (.slice none 0 0) ∧ Ext w w' := by
  have q0 := new0 w (.int .i64 sz) [.slice a vs.length c] 30
  have q1 := new1 w (.int .i64 sz) (.slice a vs.length c) [] 30
  go_enter Try.func137, Try.ntmps137
  go_wp2_with (go_at_call 55; refine (prof_impl _ _ _ _ _ (hR.ext (by repeat (first | exact Ext.refl _ | assumption | refine Ext.alloc ?_ _ | refine Ext.drew ?_ | refine Ext.trans ?_ (by assumption))))).mono ?_; rintro e w1 ⟨rfl, hw1⟩; have q0 := Ext.keep (w' := w1) (by repeat (first | exact Ext.refl _ | assumption | refine Ext.alloc ?_ _ | refine Ext.drew ?_ | refine Ext.trans ?_ (by assumption))) q0; have q1 := Ext.keep (w' := w1) (by repeat (first | exact Ext.refl _ | assumption | refine Ext.alloc ?_ _ | refine Ext.drew ?_ | refine Ext.trans ?_ (by assumption))) q1)
  go_ret
  exact ⟨rfl, (by repeat (first | exact Ext.refl _ | assumption | refine Ext.alloc ?_ _ | refine Ext.drew ?_ | refine Ext.trans ?_ (by assumption)))⟩

def fstO (sz : Int) (vs : List Vt) : List Int := if profOk sz vs then rowL sz.toNat (fstV vs) else []
set_option maxRecDepth 100000 in
set_option maxHeartbeats 1000000 in
theorem fst_impl (w : World) (sz : Int) (a : Option Addr) (c : Nat) (vs : List Vt) (hR : RdV w a vs) :
    Calls Try.prog 124 #[.agg #[.int .i64 sz, .slice a vs.length c]] w fun e w' => ∃ v, e = .returned v ∧ WrI w' w.heap.size v (fstO sz vs) ∧ Ext w w' := by
  have q0 := new0 w (.int .i64 sz) [.slice a vs.length c] 30
  have q1 := new1 w (.int .i64 sz) (.slice a vs.length c) [] 30
  cases h0 : profOk sz vs
  · go_enter Try.func124, Try.ntmps124
    go_wp2
    refine wp_region_X (by kernel_rfl) (by kernel_rfl) ?_
    repeat' (refine wpX_stepQ (fun K hK => ?_)
             go_simp
             try (rw [if_neg (by intro h; simp [undef] at h)])
             try split
             all_goals
               first
               | (refine hK _ ?_
                  clear hK K)
               | (apply Exists.intro
                  refine ⟨fun wq hwq => ?_, hK _ ?_⟩
                  · have hcq := hwq.cellS
                    go_simp
                    first
                    | exact ⟨Ext.refl _, rfl⟩
                  clear hK K))
    refine wpX_stepS rfl (by kernel_rfl) (fun K hK wq hwq => ?_)
    go_simp
    refine (plu_impl _ _).mono ?_
    rintro e w1 ⟨v, rfl, _, hw1⟩
    refine ⟨hw1, hK _ _ ?_⟩
    clear hK K
    repeat' (refine wpX_stepQ (fun K hK => ?_)
             go_simp
             try (rw [if_neg (by intro h; simp [undef] at h)])
             try split
             all_goals
               first
               | (refine hK _ ?_
                  clear hK K)
               | (apply Exists.intro
                  refine ⟨fun wq hwq => ?_, hK _ ?_⟩
                  · have hcq := hwq.cellS
                    go_simp
                    first
                    | exact ⟨Ext.refl _, rfl⟩
                    | exact ⟨Ext.refl _, sco_no _ _ _ _ _ _ (hR.ext (by repeat (first | exact Ext.refl _ | assumption | refine Ext.alloc ?_ _ | refine Ext.drew ?_ | refine Ext.trans ?_ (by assumption)))) h0⟩
                  clear hK K))
    refine wpX_nil (fun wz hwz => ?_)
    go_wp2
    go_ret
    exact ⟨_, rfl, by simp [fstO, h0]; exact WrI.nil _ _ _ _, (by repeat (first | exact Ext.refl _ | assumption | refine Ext.alloc ?_ _ | refine Ext.drew ?_ | refine Ext.trans ?_ (by assumption)))⟩
  · obtain ⟨n, rfl, n1, n2⟩ := prof_nat h0
    have HS := hide (prof_small h0)
    have hin : inR (n : Int) 1 5 = true := inR_iff.2 (by omega)
    go_enter Try.func124, Try.ntmps124
    go_wp2
    refine wp_region_X (by kernel_rfl) (by kernel_rfl) ?_
    repeat' (refine wpX_stepQ (fun K hK => ?_)
             go_simp
             try (rw [if_neg (by intro h; simp [undef] at h)])
             try split
             all_goals
               first
               | (refine hK _ ?_
                  clear hK K)
               | (apply Exists.intro
                  refine ⟨fun wq hwq => ?_, hK _ ?_⟩
                  · have hcq := hwq.cellS
                    go_simp
                    first
                    | exact ⟨Ext.refl _, rfl⟩
                  clear hK K))
    refine wpX_stepS rfl (by kernel_rfl) (fun K hK wq hwq => ?_)
    go_simp
    refine (plu_impl _ _).mono ?_
    rintro e w1 ⟨v, rfl, hv, hw1⟩
    refine ⟨hw1, hK _ _ ?_⟩
    clear hK K
    have hv := hv n rfl hin
    obtain ⟨av, cv, rfl, _, _, hRv, _⟩ := hv.val
    rw [rowL_len]
    refine wpX_stepS rfl (by kernel_rfl) (fun K hK wq hwq => ?_)
    go_simp
    refine (sco_impl _ n a av c cv vs pluW n rfl (hR.ext (by repeat (first | exact Ext.refl _ | assumption | refine Ext.alloc ?_ _ | refine Ext.drew ?_ | refine Ext.trans ?_ (by assumption)))) (hRv.ext (by repeat (first | exact Ext.refl _ | assumption | refine Ext.alloc ?_ _ | refine Ext.drew ?_ | refine Ext.trans ?_ (by assumption)))) pluG h0).mono ?_
    rintro e w2 ⟨v2, rfl, hv2, hw2⟩
    refine ⟨hw2, hK _ _ ?_⟩
    clear hK K
    repeat' (refine wpX_stepQ (fun K hK => ?_)
             go_simp
             try (rw [if_neg (by intro h; simp [undef] at h)])
             try split
             all_goals
               first
               | (refine hK _ ?_
                  clear hK K)
               | (apply Exists.intro
                  refine ⟨fun wq hwq => ?_, hK _ ?_⟩
                  · have hcq := hwq.cellS
                    go_simp
                    first
                    | exact ⟨Ext.refl _, rfl⟩
                  clear hK K))
    refine wpX_nil (fun wz hwz => ?_)
    go_wp2
    go_ret
    refine ⟨_, rfl, ?_, (by repeat (first | exact Ext.refl _ | assumption | refine Ext.alloc ?_ _ | refine Ext.drew ?_ | refine Ext.trans ?_ (by assumption)))⟩
    have he : fstO n vs = rowL n (scoV pluW vs) := by
      simp only [fstO, h0, if_true, Int.toNat_natCast]
      exact rowL_congr (fun j hj => (plc_sco hj HS.out).symm)
    rw [he]
    exact (hv2.ext hwz).base (Ext.size (by repeat (first | exact Ext.refl _ | assumption | refine Ext.alloc ?_ _ | refine Ext.drew ?_ | refine Ext.trans ?_ (by assumption))))

end Go.Proofs.Ytpicmaggkginkaa
