/- FnScores answers true at every input. -/
import Derived.Test.YthiojkpoeejkaaaCp12
import Derived.Test.YthiojkpoeejkaaaCp11
import Derived.Test.YthiojkpoeejkaaaCp17
import Derived.Test.YthiojkpoeejkaaaCp24
import Derived.Test.YthiojkpoeejkaaaCp27
import Derived.Test.YthiojkpoeejkaaaCp21
import Derived.Test.YthiojkpoeejkaaaCp10
import Derived.Test.YthiojkpoeejkaaaCp2
namespace Go.Proofs.Ythiojkpoeejkaaa
open Go.RowKit

set_option maxRecDepth 100000 in
theorem OwnI.rowForm {w : World} {B n : Nat} {v : Value} {f : Nat → Int} (h : OwnI w B v (rowL n f)) : ∃ a c, v = .slice a n c ∧ RdI w a (rowL n f) := by
  obtain ⟨a, c, rfl, _, _, hR, _⟩ := h.val
  exact ⟨a, c, by rw [rowL_len], hR⟩
set_option maxRecDepth 100000 in
theorem WrI.rowForm {w : World} {B n : Nat} {v : Value} {f : Nat → Int} (h : WrI w B v (rowL n f)) : ∃ a c, v = .slice a n c ∧ RdI w a (rowL n f) := by
  obtain ⟨a, c, rfl, _, hR, _⟩ := h.fr
  exact ⟨a, c, by rw [rowL_len], hR⟩
set_option maxRecDepth 100000 in
theorem srk_lenN (sc : Nat → Int) {n : Nat} (n1 : 1 ≤ n) (n5 : n ≤ 5) : (srk sc n).length = n := by
  have := (rk_len (srk_rk sc n1 n5)).1
  omega
set_option maxRecDepth 100000 in
theorem WrI.srkForm {w : World} {B n : Nat} {v : Value} {sc : Nat → Int} (n1 : 1 ≤ n) (n5 : n ≤ 5) (h : WrI w B v (srk sc n)) : ∃ a c, v = .slice a n c ∧ RdI w a (srk sc n) := by
  obtain ⟨a, c, rfl, _, hR, _⟩ := h.fr
  exact ⟨a, c, by rw [srk_lenN sc n1 n5], hR⟩

set_option maxRecDepth 100000 in
theorem fst_sco {n : Nat} {vs : List Vt} (h0 : profOk n vs = true) : fstO n vs = rowL n (scoV pluW vs) := by
  simp only [fstO, h0, if_true, Int.toNat_natCast]
  exact rowL_congr (fun j hj => (plc_sco hj (prof_small h0)).symm)
set_option maxRecDepth 100000 in
theorem plu_sum : ∀ {n : Nat}, 1 ≤ n → sgN pluW n = 1
  | 1, _ => by simp [sgN, pluW]
  | n + 2, _ => by rw [sgN, plu_sum (n := n + 1) (by omega)]; simp [pluW]
set_option maxRecDepth 100000 in
theorem row_bd {n : Nat} {f : Nat → Int} {L : Int} (h : ∀ a, 0 ≤ f a ∧ f a ≤ L) (hL : L ≤ 100000000) : Bd (rowL n f) := fun x hx => by
  obtain ⟨i, hi⟩ := List.getElem?_of_mem hx
  obtain ⟨_, rfl⟩ := rowL_val hi
  have := h i
  omega
set_option maxRecDepth 100000 in
theorem sco_bd {n : Nat} {f : Nat → Int} {vs : List Vt} (h0 : profOk n vs = true) (hf : GoodW f) (a : Nat) : 0 ≤ scoV f vs a ∧ scoV f vs a ≤ 2400000 := by
  have hS := prof_small h0
  have h := scoV_bd hS hf a vs.length (Nat.le_refl _)
  rw [List.take_length] at h
  have := hS.1
  omega
def SumC (w : World) (a : Option Addr) (n c : Nat) (S : Int) : Prop := ∀ W, Ext w W → Calls Try.prog 39 #[.slice a n c] W fun e w' => e = .returned (.int .i64 S) ∧ Ext W w'
set_option maxRecDepth 100000 in
theorem SumC.use {w : World} {a : Option Addr} {n c : Nat} {S : Int} (h : SumC w a n c S) (W : World) (hW : Ext w W) : Calls Try.prog 39 #[.slice a n c] W fun e w' => e = .returned (.int .i64 S) ∧ Ext W w' := h W hW
set_option maxRecDepth 100000 in
theorem WrI.fstForm {w : World} {B n : Nat} {v : Value} {vs : List Vt} (h : WrI w B v (fstO n vs)) : ∃ a c, v = .slice a (fstO n vs).length c ∧ RdI w a (fstO n vs) := by
  obtain ⟨a, c, rfl, _, hR, _⟩ := h.fr
  exact ⟨a, c, rfl, hR⟩
structure ScF (n : Nat) (vs : List Vt) (S P V : Int) : Prop where
  s : (rowL n (scoV (borW n) vs)).sum = S
  p : (rowL n (borW n)).sum = P
  v : allV vs = V
  m : P * V = S
  s0 : 0 ≤ S
  s1 : S ≤ 12000000
  f : (fstO n vs).sum = V
set_option maxRecDepth 100000 in
theorem scs_facts {n : Nat} {vs : List Vt} (n1 : 1 ≤ n) (n5 : n ≤ 5) (h0 : profOk n vs = true) : ∃ S P V, ScF n vs S P V := by
  have hS := prof_small h0
  refine ⟨_, _, _, rfl, rfl, rfl, ?_, ?_, ?_, ?_⟩
  · rw [rowL_sum, rowL_sum, sco_sum _ hS]
  · rw [rowL_sum, ← sgN_zero n]
    exact sgN_le (fun i _ => (sco_bd h0 (borG n5) i).1)
  · rw [rowL_sum]
    refine Int.le_trans (sgN_le (g := fun _ => 2400000) (fun i _ => (sco_bd h0 (borG n5) i).2)) ?_
    rw [sgN_const]
    omega
  · rw [fst_sco h0, rowL_sum, sco_sum _ hS, plu_sum n1, Int.one_mul]

set_option maxRecDepth 100000 in
theorem fst_sum {w : World} {n : Nat} {a : Option Addr} {vs : List Vt} (hR : RdI w a (fstO n vs)) (h : Hid (1 ≤ n ∧ n ≤ 5 ∧ profOk n vs = true)) (c : Nat) : SumC w a (fstO n vs).length c (allV vs) := fun W hW => by
  obtain ⟨n1, n5, h0⟩ := h.out
  have h2 := scs_facts n1 n5 h0
  obtain ⟨S, P, V, hF⟩ := h2
  have h3 := sum_law W a (fstO n vs).length c (fstO n vs) rfl (hR.ext hW) (by rw [fst_sco h0, rowL_len]; omega) (by rw [fst_sco h0]; exact row_bd (sco_bd h0 pluG) (by omega))
  rw [hF.f, ← hF.v] at h3
  exact h3

set_option maxRecDepth 100000 in
theorem pair_part {n : Nat} {vs : List Vt} {k : Nat} (hS : SmallV n vs) : ∀ m : Nat, 0 ≤ sgN (fun b => pairV vs k b) m ∧ sgN (fun b => pairV vs k b) m ≤ 24000 * m
  | 0 => by simp [sgN]
  | m + 1 => by
    have ih := pair_part (k := k) hS m
    have h := sumV_bd' (p := fun r => prefB r k m) hS
    have h2 : pairV vs k m = sumV (fun r => prefB r k m) vs := rfl
    rw [sgN]
    omega
set_option maxRecDepth 100000 in
theorem pair_row {n : Nat} {vs : List Vt} {k : Nat} (h : Hid (1 ≤ n ∧ n ≤ 5 ∧ profOk n vs = true)) (hk : k < n) : (∀ m, m < n → 0 ≤ sgN (fun b => pairV vs k b) m ∧ sgN (fun b => pairV vs k b) m ≤ 200000 ∧ 0 ≤ pairV vs k m ∧ pairV vs k m ≤ 24000 ∧ sgN (fun b => pairV vs k b) (m + 1) = sgN (fun b => pairV vs k b) m + pairV vs k m) ∧ scoV (borW n) vs k = sgN (fun b => pairV vs k b) n := by
  obtain ⟨n1, n5, h0⟩ := h.out
  have hS := prof_small h0
  refine ⟨fun m hm => ?_, bor_pairs hk hS⟩
  have h1 := pair_part (k := k) hS m
  have h3 := sumV_bd' (p := fun r => prefB r k m) hS
  have h4 : pairV vs k m = sumV (fun r => prefB r k m) vs := rfl
  exact ⟨by omega, by omega, by omega, by omega, rfl⟩

set_option maxRecDepth 100000 in
/-- The one who is beaten by all others, or none. -/
theorem los_cases {n : Nat} {vs : List Vt} (h0 : profOk n vs = true) : (∃ c : Nat, c < n ∧ loserO n vs = c ∧ ∀ j, j < n → j ≠ c → bt vs j c = true) ∨ loserO n vs = -1 := by
  unfold loserO
  rw [thoseO_eq h0]
  by_cases h : ∃ c, c < n ∧ thoseP n (fun i j => bt vs j i) c = true
  · obtain ⟨c, hc, ht⟩ := h
    have hb := those_iff.1 ht
    refine .inl ⟨c, hc, ?_, hb⟩
    rw [upL_one hc ht (fun j hj hq => ?_)]
    · rfl
    · by_cases e : j = c
      · exact e
      · have h1 := hb j hj e
        have h2 := those_iff.1 hq c hc (fun h => e h.symm)
        rw [bt_anti vs _ _ h1] at h2
        cases h2
  · refine .inr ?_
    rw [upL_none (fun j hj => ?_)]
    · rfl
    · cases hq : thoseP n (fun i j => bt vs j i) j
      · rfl
      · exact absurd ⟨j, hj, hq⟩ h
set_option maxRecDepth 100000 in
theorem los_not {n : Nat} {vs : List Vt} (h0 : profOk n vs = true) (hn : 2 ≤ n) : hasI (bestL (rowL n (scoV (borW n) vs))) (loserO n vs) = false := by
  cases e : hasI (bestL (rowL n (scoV (borW n) vs))) (loserO n vs)
  · rfl
  · exfalso
    have hm := hasI_iff.1 e
    rcases los_cases h0 with ⟨c, hc, el, hb⟩ | el
    · rw [el] at hm
      refine loser_not (prof_small h0) hn hc (fun b hbn hne => ?_) hm
      have := hb b hbn hne
      unfold bt beatsV at this
      rw [decide_eq_true_eq] at this
      exact this
    · rw [el] at hm
      obtain ⟨i, _, _, e2⟩ := upL_mem.1 hm
      omega
set_option maxRecDepth 100000 in
/-- Two neighbours of the ranking. -/
theorem srk_two {n : Nat} {vs : List Vt} {m : Nat} (hm : m + 1 < n) : ∃ i j : Nat, i < n ∧ j < n ∧ (srk (scoV (borW n) vs) n)[m]? = some (i : Int) ∧ (srk (scoV (borW n) vs) n)[m + 1]? = some (j : Int) ∧ (scoV (borW n) vs j < scoV (borW n) vs i ∨ (scoV (borW n) vs i = scoV (borW n) vs j ∧ i < j)) := by
  have hl : (srk (scoV (borW n) vs) n).length = n := srk_len _ _
  obtain ⟨x, hx⟩ := at_of_lt (xs := srk (scoV (borW n) vs) n) (k := m) (by omega)
  obtain ⟨y, hy⟩ := at_of_lt (xs := srk (scoV (borW n) vs) n) (k := m + 1) (by omega)
  obtain ⟨i, hi, rfl⟩ := srk_mem (List.mem_of_getElem? hx)
  obtain ⟨j, hj, rfl⟩ := srk_mem (List.mem_of_getElem? hy)
  refine ⟨i, j, hi, hj, hx, hy, ?_⟩
  have l1 := lt_of_at hx
  have l2 := lt_of_at hy
  have h := List.pairwise_iff_getElem.1 (srk_bef (scoV (borW n) vs) n) m (m + 1) l1 l2 (by omega)
  rw [List.getElem?_eq_getElem l1] at hx
  rw [List.getElem?_eq_getElem l2] at hy
  injection hx with hx
  injection hy with hy
  rw [hx, hy] at h
  unfold Bef keyS at h
  simp only [Int.toNat_natCast] at h
  omega
set_option maxRecDepth 100000 in
theorem best_zero {n : Nat} {vs : List Vt} (n1 : 1 ≤ n) : ∃ x : Int, (bestL (rowL n (scoV (borW n) vs)))[0]? = some x ∧ (srk (scoV (borW n) vs) n)[0]? = some x := by
  have h := best_srk (scoV (borW n) vs) n1
  have hl : (srk (scoV (borW n) vs) n).length = n := srk_len _ _
  obtain ⟨x, hx⟩ := at_of_lt (xs := srk (scoV (borW n) vs) n) (k := 0) (by omega)
  rw [List.head?_eq_getElem?, List.head?_eq_getElem?, hx] at h
  exact ⟨x, h, hx⟩

set_option maxRecDepth 100000 in
set_option maxHeartbeats 4000000 in
theorem scs_law (w : World) (a : Option Addr) (c : Nat) (bs : List Int) (hR : RdY w a bs) (_ : bs.length ≤ maxLen) :
    Calls Try.prog 5 #[.slice a bs.length c] w fun e w' => e = .returned (.bool true) ∧ Ext w w' := by
  by_cases hb : bs.length ≤ 1048576
  · go_enter Try.func5, Try.ntmps5
    go_wp2_with fail
    refine (numY_spec _ a c 0 bs (hR.ext (by repeat (first | exact Ext.refl _ | assumption | refine Ext.alloc ?_ _ | refine Ext.drew ?_ | refine Ext.trans ?_ (by assumption)))) hb (by omega)).mono ?_
    rintro e w1 ⟨x, rfl, hx, hw1⟩
    go_wp2_with fail
    obtain ⟨n, hn, n1, n5⟩ : ∃ n : Nat, 1 + (x : Int) % 5 = n ∧ 1 ≤ n ∧ n ≤ 5 := ⟨(1 + (x : Int) % 5).toNat, by omega, by omega, by omega⟩
    rw [hn]
    clear hn hx
    refine (mkprof_spec _ a c 2 n bs (hR.ext (by repeat (first | exact Ext.refl _ | assumption | refine Ext.alloc ?_ _ | refine Ext.drew ?_ | refine Ext.trans ?_ (by assumption)))) hb (by omega) n1 n5).mono ?_
    rintro e w2 ⟨v, rfl, a', vs, c', rfl, hRV, ⟨h0, v1, v5, v6⟩, hw2⟩
    have HS := hide (prof_small h0)
    clear v6
    have HM := hide (⟨v1, v5⟩ : 1 ≤ vs.length ∧ vs.length ≤ 5)
    clear v1 v5
    have q0 := new0 w2 (.int .i64 n) [.slice a' vs.length c'] 47
    have q1 := new1 w2 (.int .i64 n) (.slice a' vs.length c') [] 47
    have hE := Ext.new w2 (.cells #[.int .i64 n, .slice a' vs.length c'] 47)
    go_wp2_with fail
    have hw := (Ext.trans hw1 hw2).trans hE
    have hRV := hRV.ext hE
    clear hR hb hw1 hw2 hE
    generalize w2.alloc (.cells #[.int .i64 n, .slice a' vs.length c'] 47) = W0 at hw hRV q0 q1 ⊢
    refine (bor_impl _ n n1 n5).mono ?_
    rintro e w3 ⟨vb, rfl, hvb, hw3⟩
    obtain ⟨ab, cb, rfl, hRb⟩ := hvb.rowForm
    clear hvb
    have q0 := hw3.keep q0
    have q1 := hw3.keep q1
    go_wp2_with fail
    refine (sco_impl _ _ a' ab c' cb vs (borW n) n rfl (hRV.ext (by repeat (first | exact Ext.refl _ | assumption | refine Ext.alloc ?_ _ | refine Ext.drew ?_ | refine Ext.trans ?_ (by assumption)))) (hRb.ext (by repeat (first | exact Ext.refl _ | assumption | refine Ext.alloc ?_ _ | refine Ext.drew ?_ | refine Ext.trans ?_ (by assumption)))) (borG n5) h0).mono ?_
    rintro e w4 ⟨vp, rfl, hvp, hw4⟩
    obtain ⟨ap, cp, rfl, hRp⟩ := hvp.rowForm
    clear hvp
    have q0 := hw4.keep q0
    have q1 := hw4.keep q1
    go_wp2_with fail
    refine (srk_impl _ _ a' ab c' cb vs (borW n) n rfl (hRV.ext (by repeat (first | exact Ext.refl _ | assumption | refine Ext.alloc ?_ _ | refine Ext.drew ?_ | refine Ext.trans ?_ (by assumption)))) (hRb.ext (by repeat (first | exact Ext.refl _ | assumption | refine Ext.alloc ?_ _ | refine Ext.drew ?_ | refine Ext.trans ?_ (by assumption)))) (borG n5) h0).mono ?_
    rintro e w5 ⟨vr, rfl, hvr, hw5⟩
    obtain ⟨ar, cr, rfl, hRr⟩ := hvr.srkForm n1 n5
    clear hvr
    have q0 := hw5.keep q0
    have q1 := hw5.keep q1
    have hw35 := (hw3.trans hw4).trans hw5
    have h5 := hw5
    have h45 := hw4.trans hw5
    have hw5 := hw.trans hw35
    have hRV := hRV.ext hw35
    have hRb := hRb.ext h45
    have hRp := hRp.ext h5
    clear hw3 hw4 hw35 hw h45 h5
    obtain ⟨S, P, V, hF⟩ := scs_facts n1 n5 h0
    have HFS := hide hF
    have h0n := hide (⟨n1, n5, h0⟩ : 1 ≤ n ∧ n ≤ 5 ∧ profOk n vs = true)
    have HA : SumC w5 ap n cp S := (fun W hW => by
      have := sum_law W ap n cp (rowL n (scoV (borW n) vs)) (rowL_len _ _).symm (hRp.ext hW) (by rw [rowL_len]; omega) (row_bd (sco_bd h0 (borG n5)) (by omega))
      rw [hF.s] at this
      exact this)
    have HB : SumC w5 ab n cb P := (fun W hW => by
      have := sum_law W ab n cb (rowL n (borW n)) (rowL_len _ _).symm (hRb.ext hW) (by rw [rowL_len]; omega) (row_bd (borG n5).1 (by omega))
      rw [hF.p] at this
      exact this)
    have HC : Hid (∀ W, Ext w5 W → Calls Try.prog 25 #[.agg #[.int .i64 n, .slice a' vs.length c']] W fun e w' => e = .returned (.int .i64 V) ∧ Ext W w') := hide (fun W hW =>
      (count_impl W n a' c' vs (hRV.ext hW)).mono fun _ _ ⟨h1, h2⟩ => ⟨by rw [h1, if_pos h0, hF.v], h2⟩)
    have HK : Hid (∀ W, Ext w5 W → Calls Try.prog 41 #[.int .i64 n, .slice ar n cr] W fun e w' => e = .returned (.bool true) ∧ Ext W w') := hide (fun W hW => by
      have := rank_spec_n W n ar cr (srk (scoV (borW n) vs) n) (hRr.ext hW) (srk_lenN _ n1 n5) (inR_iff.2 (by omega))
      rw [srk_rk _ n1 n5] at this
      exact this)
    have HW : Hid (∀ W, Ext w5 W → Calls Try.prog 42 #[.int .i64 n, .slice ab n cb] W fun e w' => e = .returned (.bool true) ∧ Ext W w') := hide (fun W hW => wOk_impl W ab cb n (borW n) (hRb.ext hW) n1 n5 (borG n5))
    have HP : Hid (∀ W, Ext w5 W → Calls Try.prog 40 #[.agg #[.int .i64 n, .slice a' vs.length c']] W fun e w' => ∃ v, e = .returned v ∧ WrI w' W.heap.size v (fstO n vs) ∧ Ext W w') := hide (fun W hW => fst_impl W n a' c' vs (hRV.ext hW))
    have HV := hF.v
    have hm := hF.m
    have hs0 := hF.s0
    have hs1 := hF.s1
    have y1 : IntKind.i64.wrap S = S := IntWalk.i64_in _ (by omega)
    have y2 : IntKind.i64.wrap (P * V) = S := by rw [hm, y1]
    clear hm hs0 hs1 y1 hF n1 n5 h0
    go_wp2
    refine wp_region_O (0 :: 1 :: 2 :: 3 :: 4 :: 5 :: 6 :: 7 :: 8 :: 9 :: 10 :: 11 :: 12 :: 13 :: 14 :: 15 :: 16 :: 17 :: 18 :: 19 :: 20 :: 21 :: 24 :: 22 :: 23 :: 25 :: 26 :: 27 :: 28 :: 29 :: 30 :: 31 :: 32 :: 33 :: 34 :: 35 :: 36 :: 37 :: 38 :: 39 :: []) (by kernel_rfl) rfl (by kernel_rfl) ?_
    repeat' (refine wpO_stepQ rfl (fun K hK => ?_)
             go_simp
             try (rw [if_neg (by intro h; simp [undef] at h)])
             try split
             all_goals
               first
               | (refine hK _ ?_
                  clear hK K)
               | (apply Exists.intro
                  refine ⟨fun wq hwq => ?_, hK _ ?_⟩
                  · have hcq := hwq.cellS
                    go_simp
                    first
                    | exact ⟨Ext.refl _, rfl⟩
                  clear hK K))
    refine wpO_stepQ rfl (fun K hK => ?_)
    go_simp
    apply Exists.intro
    refine ⟨fun wq hwq => ?_, hK _ ?_⟩
    · have hcq := hwq.cellS
      go_simp
      exact ⟨Ext.refl _, HA _ (by repeat (first | exact Ext.refl _ | assumption | refine Ext.alloc ?_ _ | refine Ext.drew ?_ | refine Ext.trans ?_ (by assumption)))⟩
    clear hK K
    repeat' (refine wpO_stepQ rfl (fun K hK => ?_)
             go_simp
             try (rw [if_neg (by intro h; simp [undef] at h)])
             try split
             all_goals
               first
               | (refine hK _ ?_
                  clear hK K)
               | (apply Exists.intro
                  refine ⟨fun wq hwq => ?_, hK _ ?_⟩
                  · have hcq := hwq.cellS
                    go_simp
                    first
                    | exact ⟨Ext.refl _, rfl⟩
                  clear hK K))
    refine wpO_stepQ rfl (fun K hK => ?_)
    go_simp
    apply Exists.intro
    refine ⟨fun wq hwq => ?_, hK _ ?_⟩
    · have hcq := hwq.cellS
      go_simp
      exact ⟨Ext.refl _, HB _ (by repeat (first | exact Ext.refl _ | assumption | refine Ext.alloc ?_ _ | refine Ext.drew ?_ | refine Ext.trans ?_ (by assumption)))⟩
    clear hK K
    repeat' (refine wpO_stepQ rfl (fun K hK => ?_)
             go_simp
             try (rw [if_neg (by intro h; simp [undef] at h)])
             try split
             all_goals
               first
               | (refine hK _ ?_
                  clear hK K)
               | (apply Exists.intro
                  refine ⟨fun wq hwq => ?_, hK _ ?_⟩
                  · have hcq := hwq.cellS
                    go_simp
                    first
                    | exact ⟨Ext.refl _, rfl⟩
                  clear hK K))
    refine wpO_stepQ rfl (fun K hK => ?_)
    go_simp
    apply Exists.intro
    refine ⟨fun wq hwq => ?_, hK _ ?_⟩
    · have hcq := hwq.cellS
      go_simp
      exact ⟨Ext.refl _, HC.out _ (by repeat (first | exact Ext.refl _ | assumption | refine Ext.alloc ?_ _ | refine Ext.drew ?_ | refine Ext.trans ?_ (by assumption)))⟩
    clear hK K
    repeat' (refine wpO_stepQ rfl (fun K hK => ?_)
             go_simp
             try (rw [if_neg (by intro h; simp [undef] at h)])
             try split
             all_goals
               first
               | (refine hK _ ?_
                  clear hK K)
               | (apply Exists.intro
                  refine ⟨fun wq hwq => ?_, hK _ ?_⟩
                  · have hcq := hwq.cellS
                    go_simp
                    first
                    | exact ⟨Ext.refl _, rfl⟩
                  clear hK K))
    refine wpO_stepS rfl (by kernel_rfl) (fun K hK wq hwq => ?_)
    go_simp
    refine (HP.out _ (by repeat (first | exact Ext.refl _ | assumption | refine Ext.alloc ?_ _ | refine Ext.drew ?_ | refine Ext.trans ?_ (by assumption)))).mono ?_
    rintro e w6 ⟨vf, rfl, hvf, hw6⟩
    refine ⟨hw6, hK _ _ ?_⟩
    clear hK K
    obtain ⟨af, cf, rfl, hRf⟩ := hvf.fstForm
    clear hvf
    have HF := hide (fst_sum hRf h0n cf)
    rw [HV] at HF
    refine wpO_stepQ rfl (fun K hK => ?_)
    go_simp
    apply Exists.intro
    refine ⟨fun wq hwq => ?_, hK _ ?_⟩
    · have hcq := hwq.cellS
      go_simp
      exact ⟨Ext.refl _, HF.out _ (by repeat (first | exact Ext.refl _ | assumption | refine Ext.alloc ?_ _ | refine Ext.drew ?_ | refine Ext.trans ?_ (by assumption)))⟩
    clear hK K
    repeat' (refine wpO_stepQ rfl (fun K hK => ?_)
             go_simp
             try (rw [if_neg (by intro h; simp [undef] at h)])
             try split
             all_goals
               first
               | (refine hK _ ?_
                  clear hK K)
               | (apply Exists.intro
                  refine ⟨fun wq hwq => ?_, hK _ ?_⟩
                  · have hcq := hwq.cellS
                    go_simp
                    first
                    | exact ⟨Ext.refl _, rfl⟩
                  clear hK K))
    refine wpO_stepQ rfl (fun K hK => ?_)
    go_simp
    apply Exists.intro
    refine ⟨fun wq hwq => ?_, hK _ ?_⟩
    · have hcq := hwq.cellS
      go_simp
      exact ⟨Ext.refl _, HC.out _ (by repeat (first | exact Ext.refl _ | assumption | refine Ext.alloc ?_ _ | refine Ext.drew ?_ | refine Ext.trans ?_ (by assumption)))⟩
    clear hK K
    repeat' (refine wpO_stepQ rfl (fun K hK => ?_)
             go_simp
             try (rw [if_neg (by intro h; simp [undef] at h)])
             try split
             all_goals
               first
               | (refine hK _ ?_
                  clear hK K)
               | (apply Exists.intro
                  refine ⟨fun wq hwq => ?_, hK _ ?_⟩
                  · have hcq := hwq.cellS
                    go_simp
                    first
                    | exact ⟨Ext.refl _, rfl⟩
                  clear hK K))
    refine wpO_stepQ rfl (fun K hK => ?_)
    go_simp
    apply Exists.intro
    refine ⟨fun wq hwq => ?_, hK _ ?_⟩
    · have hcq := hwq.cellS
      go_simp
      exact ⟨Ext.refl _, HK.out _ (by repeat (first | exact Ext.refl _ | assumption | refine Ext.alloc ?_ _ | refine Ext.drew ?_ | refine Ext.trans ?_ (by assumption)))⟩
    clear hK K
    repeat' (refine wpO_stepQ rfl (fun K hK => ?_)
             go_simp
             try (rw [if_neg (by intro h; simp [undef] at h)])
             try split
             all_goals
               first
               | (refine hK _ ?_
                  clear hK K)
               | (apply Exists.intro
                  refine ⟨fun wq hwq => ?_, hK _ ?_⟩
                  · have hcq := hwq.cellS
                    go_simp
                    first
                    | exact ⟨Ext.refl _, rfl⟩
                  clear hK K))
    refine wpO_stepQ rfl (fun K hK => ?_)
    go_simp
    apply Exists.intro
    refine ⟨fun wq hwq => ?_, hK _ ?_⟩
    · have hcq := hwq.cellS
      go_simp
      exact ⟨Ext.refl _, HW.out _ (by repeat (first | exact Ext.refl _ | assumption | refine Ext.alloc ?_ _ | refine Ext.drew ?_ | refine Ext.trans ?_ (by assumption)))⟩
    clear hK K
    repeat' (refine wpO_stepQ rfl (fun K hK => ?_)
             go_simp
             try (rw [if_neg (by intro h; simp [undef] at h)])
             try split
             all_goals
               first
               | (refine hK _ ?_
                  clear hK K)
               | (apply Exists.intro
                  refine ⟨fun wq hwq => ?_, hK _ ?_⟩
                  · have hcq := hwq.cellS
                    go_simp
                    first
                    | exact ⟨Ext.refl _, rfl⟩
                  clear hK K))
    refine wpO_nil (fun wz hwz => ?_)
    have q0 := Ext.keep (w' := wz) (by repeat (first | exact Ext.refl _ | assumption | refine Ext.alloc ?_ _ | refine Ext.drew ?_ | refine Ext.trans ?_ (by assumption))) q0
    have q1 := Ext.keep (w' := wz) (by repeat (first | exact Ext.refl _ | assumption | refine Ext.alloc ?_ _ | refine Ext.drew ?_ | refine Ext.trans ?_ (by assumption))) q1
    go_wp2
    obtain ⟨wb, hwb⟩ : ∃ wb : World, wb = wz := ⟨_, rfl⟩
    subst hwb
    have hEb : Ext w5 wb := (by repeat (first | exact Ext.refl _ | assumption | refine Ext.alloc ?_ _ | refine Ext.drew ?_ | refine Ext.trans ?_ (by assumption)))
    have hWb : Ext w wb := hw5.trans hEb
    have HQ : Hid (∀ W (i j : Nat), Ext wb W → i < n → j < n → Calls Try.prog 33 #[.agg #[.int .i64 n, .slice a' vs.length c'], .int .i64 i, .int .i64 j] W fun e w' => e = .returned (.int .i64 (pairV vs i j)) ∧ Ext W w') := hide (fun W i j hW hi hj => by
      have h3 := pair_impl W n a' c' vs i j (hRV.ext (hEb.trans hW))
      have h4 : pairO n vs i j = pairV vs i j := by
        unfold pairO
        have e1 : hasB n i = true := inR_iff.2 (by omega)
        have e2 : hasB n j = true := inR_iff.2 (by omega)
        rw [h0n.out.2.2, e1, e2]
        rfl
      rw [h4] at h3
      exact h3)
    have hRV := hRV.ext hEb
    have hRb := hRb.ext hEb
    have hRp := hRp.ext hEb
    have hRr := hRr.ext hEb
    have HCb : Hid (∀ W, Ext wb W → Calls Try.prog 25 #[.agg #[.int .i64 n, .slice a' vs.length c']] W fun e w' => e = .returned (.int .i64 V) ∧ Ext W w') := hide (fun W hW => HC.out W (hEb.trans hW))
    clear HA HB HC HK HW HP HF hRf hEb hwz y2
    have h0 := h0n.out.2.2
    have n1 := h0n.out.1
    have n5 := h0n.out.2.1
    obtain ⟨xz, hb0, hs0⟩ := best_zero (vs := vs) n1
    obtain ⟨br, orr, rfl, dz⟩ := hRr.at_ hs0
    rw [Nat.add_zero] at dz
    obtain ⟨bp, op, rfl, hju⟩ := hRp.at_ (rowL_at (f := scoV (borW n) vs) (j := 0) (by omega))
    clear hju hs0
    have HSW : Hid (∀ W, Ext wb W → Calls Try.prog 43 #[.agg #[.int .i64 n, .slice a' vs.length c'], .slice ab n cb] W fun e w' => ∃ aw cw, e = .returned (.slice aw (bestL (rowL n (scoV (borW n) vs))).length cw) ∧ RdI w' aw (bestL (rowL n (scoV (borW n) vs))) ∧ Ext W w') := hide (fun W hW => (swin_impl W n a' ab c' cb vs (borW n) n5 (hRV.ext hW) (hRb.ext hW) (borG n5) h0).mono fun e w' ⟨v, h1, h2, h3⟩ => by
      obtain ⟨aw, cw, hv, _, _, hRw, _⟩ := h2.val
      exact ⟨aw, cw, by rw [h1, hv], hRw, h3⟩)
    have HLO : Hid (∀ W, Ext wb W → Calls Try.prog 44 #[.agg #[.int .i64 n, .slice a' vs.length c']] W fun e w' => e = .returned (.int .i64 (loserO n vs)) ∧ Ext W w') := hide (fun W hW => loser_impl W n a' c' vs (hRV.ext hW))
    have HVE : Hid (∀ W, Calls Try.prog 45 #[.int .i64 n] W fun e w' => ∃ av cv, e = .returned (.slice av n cv) ∧ RdI w' av (rowL n (vetW n)) ∧ Ext W w') := hide (fun W => (vet_impl W n n1 n5).mono fun e w' ⟨v, h1, h2, h3⟩ => by
      obtain ⟨av, cv, hv, hRw⟩ := h2.rowForm
      exact ⟨av, cv, by rw [h1, hv], hRw, h3⟩)
    have HSV : Hid (∀ W av cv, Ext wb W → RdI W av (rowL n (vetW n)) → Calls Try.prog 37 #[.agg #[.int .i64 n, .slice a' vs.length c'], .slice av n cv] W fun e w' => ∃ au cu, e = .returned (.slice au n cu) ∧ RdI w' au (rowL n (scoV (vetW n) vs)) ∧ Ext W w') := hide (fun W av cv hW hRw => (sco_impl W _ a' av c' cv vs (vetW n) n rfl (hRV.ext hW) hRw (vetG n) h0).mono fun e w' ⟨v, h1, h2, h3⟩ => by
      obtain ⟨au, cu, hv, hRu⟩ := h2.rowForm
      exact ⟨au, cu, by rw [h1, hv], hRu, h3⟩)
    have HLP : Hid (∀ W, Ext wb W → Calls Try.prog 46 #[.agg #[.int .i64 n, .slice a' vs.length c']] W fun e w' => ∃ au cu, e = .returned (.slice au n cu) ∧ RdI w' au (rowL n (lstV n vs)) ∧ Ext W w') := hide (fun W hW => (las_impl W n a' c' vs (hRV.ext hW) h0 n1 n5).mono fun e w' ⟨v, h1, h2, h3⟩ => by
      obtain ⟨au, cu, hv, hRu⟩ := h2.rowForm
      exact ⟨au, cu, by rw [h1, hv], hRu, h3⟩)
    have HPL : Hid (∀ W, Calls Try.prog 48 #[.int .i64 n] W fun e w' => ∃ av cv, e = .returned (.slice av n cv) ∧ RdI w' av (rowL n pluW) ∧ Ext W w') := hide (fun W => (plu_impl W n).mono fun e w' ⟨v, h1, h2, h3⟩ => by
      obtain ⟨av, cv, hv, hRw⟩ := (h2 n rfl (inR_iff.2 (by omega))).rowForm
      exact ⟨av, cv, by rw [h1, hv], hRw, h3⟩)
    have HSP : Hid (∀ W av cv, Ext wb W → RdI W av (rowL n pluW) → Calls Try.prog 37 #[.agg #[.int .i64 n, .slice a' vs.length c'], .slice av n cv] W fun e w' => ∃ au cu, e = .returned (.slice au n cu) ∧ RdI w' au (rowL n (scoV pluW vs)) ∧ Ext W w') := hide (fun W av cv hW hRw => (sco_impl W _ a' av c' cv vs pluW n rfl (hRV.ext hW) hRw pluG h0).mono fun e w' ⟨v, h1, h2, h3⟩ => by
      obtain ⟨au, cu, hv, hRu⟩ := h2.rowForm
      exact ⟨au, cu, by rw [h1, hv], hRu, h3⟩)
    have HFP : Hid (∀ W, Ext wb W → Calls Try.prog 40 #[.agg #[.int .i64 n, .slice a' vs.length c']] W fun e w' => ∃ au cu, e = .returned (.slice au n cu) ∧ RdI w' au (rowL n (scoV pluW vs)) ∧ Ext W w') := hide (fun W hW => (fst_impl W n a' c' vs (hRV.ext hW)).mono fun e w' ⟨v, h1, h2, h3⟩ => by
      rw [fst_sco h0] at h2
      obtain ⟨au, cu, hv, hRu⟩ := h2.rowForm
      exact ⟨au, cu, by rw [h1, hv], hRu, h3⟩)
    have HS2 : Hid (∀ m, m + 1 < n → ∃ i j : Nat, i < n ∧ j < n ∧ (srk (scoV (borW n) vs) n)[m]? = some (i : Int) ∧ (srk (scoV (borW n) vs) n)[m + 1]? = some (j : Int) ∧ (scoV (borW n) vs j < scoV (borW n) vs i ∨ (scoV (borW n) vs i = scoV (borW n) vs j ∧ i < j))) := hide (fun m hm => srk_two hm)
    have HVL : Hid (∀ i, i < n → scoV (vetW n) vs i + lstV n vs i = V ∧ 0 ≤ scoV (vetW n) vs i ∧ 0 ≤ lstV n vs i ∧ V ≤ 100000) := hide (fun i hi => by
      have h1 := veto_last hi HS.out
      have h2 := (sco_bd h0 (vetG n) i).1
      have h3 := lstV_bd (n := n) HS.out i vs.length (Nat.le_refl _)
      rw [List.take_length] at h3
      have h4 : 0 ≤ allV vs ∧ allV vs ≤ 24000 := sumV_bd' HS.out
      rw [HFS.out.v] at h1 h4
      omega)
    have HLN : Hid (2 ≤ n → hasI (bestL (rowL n (scoV (borW n) vs))) (loserO n vs) = false) := hide (fun hn => los_not h0 hn)
    have hbl : (bestL (rowL n (scoV (borW n) vs))).length ≤ 5 := by
      unfold bestL
      refine Nat.le_trans (upL_len _ _) ?_
      rw [rowL_len]
      exact n5
    have n0 : 0 < n := n1
    have hb1 := lt_of_at hb0
    have HB0 := hide hb0
    have HRR := hide hRr
    have HRP := hide hRp
    have Q0 := q0
    have Q1 := q1
    clear h0 hb0 hRr hRV hRb
    generalize loserO n vs = LO at HLO HLN
    generalize bestL (rowL n (scoV (borW n) vs)) = WL at HSW HLN hbl hb1 HB0
    as_aux_lemma =>
      go_wp2_with fail
      go_loopw [8, 9, 10] (fun i _ _ wr => ∃ k : Nat, k ≤ n ∧ i = .int .i64 k ∧ Ext wb wr) (fun i _ _ _ => n - (intOf i).toNat)
      case atStart => exact ⟨0, Nat.zero_le _, rfl, Ext.refl _⟩
      case round =>
        obtain ⟨k, hk, rfl, hwr⟩ := hrel
        by_cases hlt : k < n
        · obtain ⟨wo, hwo⟩ : ∃ wo : World, wo = wr := ⟨_, rfl⟩
          subst hwo
          have hEo := hide hwr
          have HPR := hide (pair_row h0n (show k < n from hlt))
          go_wp2_with fail
          go_loopw [9, 10] (fun s j wr => ∃ m : Nat, m ≤ n ∧ j = .int .i64 m ∧ s = .int .i64 (sgN (fun b => pairV vs k b) m) ∧ Ext wo wr) (fun _ j _ => n - (intOf j).toNat)
          case atStart => exact ⟨0, Nat.zero_le _, rfl, rfl, Ext.refl _⟩
          case round =>
            clear hwr
            obtain ⟨m, hm, rfl, rfl, hwr⟩ := hrel
            by_cases hmn : m < n
            · have q0 := Ext.keep (w' := wr) (by repeat (first | exact Ext.refl _ | assumption | refine Ext.alloc ?_ _ | refine Ext.drew ?_ | refine Ext.trans ?_ (by assumption))) q0
              have q1 := Ext.keep (w' := wr) (by repeat (first | exact Ext.refl _ | assumption | refine Ext.alloc ?_ _ | refine Ext.drew ?_ | refine Ext.trans ?_ (by assumption))) q1
              obtain ⟨b0, b1, b2, b3, HN⟩ := HPR.out.1 m hmn
              have HN := hide HN
              by_cases e : k = m
              · have e' : (k : Int) = (m : Int) := by omega
                have HZ := hide (pairW_self vs k)
                subst e
                clear e'
                go_wp2_with fail
                refine ⟨⟨k + 1, by omega, by go_num, ?_, hwr⟩, by simp [intOf]; omega⟩
                rw [HN.out, HZ.out, Int.add_zero]
              · have e' : ¬ (k : Int) = (m : Int) := by omega
                have HQ2 := hide (HQ.out wr k m (hEo.out.trans hwr) hlt hmn)
                generalize sgN (fun b => pairV vs k b) m = A at b0 b1 HN ⊢
                go_wp2_with fail
                refine HQ2.out.mono ?_
                rintro e w6 ⟨rfl, hw6⟩
                go_wp2_with fail
                refine ⟨⟨m + 1, by omega, by go_num, by rw [HN.out], hwr.trans hw6⟩, by simp [intOf]; omega⟩
            · have hmn2 : (m : Int) = (n : Int) := by omega
              have hmn3 : m = n := by omega
              rw [hmn3, ← HPR.out.2]
              clear hmn2 hmn3 hmn hm
              have HX := hide (rowL_at (f := scoV (borW n) vs) hlt)
              obtain ⟨b4, o4, e4, d4⟩ := (hRp.ext (hEo.out.trans hwr)).at_ HX.out
              injection e4 with e4
              injection e4 with e4 e5
              subst e4
              subst e5
              have hlt2 := hlt
              go_wp2_with fail
              exact ⟨⟨k + 1, by omega, by go_num, hEo.out.trans hwr⟩, by simp [intOf]; omega⟩
        · have q0 := hwr.keep Q0
          have q1 := hwr.keep Q1
          have hEo := hide hwr
          obtain ⟨wo, hwo⟩ : ∃ wo : World, wo = wr := ⟨_, rfl⟩
          subst hwo
          have P0 := q0
          have P1 := q1
          clear HQ
          as_aux_lemma =>
            go_wp2_with fail
            go_loopw [11, 12, 13] (fun i _ _ wr => ∃ m : Nat, m + 1 ≤ n ∧ i = .int .i64 ((m + 1 : Nat) : Int) ∧ Ext wo wr) (fun i _ _ _ => n - (intOf i).toNat)
            case atStart => exact ⟨0, n1, rfl, Ext.refl _⟩
            case round =>
              clear hwr
              obtain ⟨m, hm, rfl, hwr⟩ := hrel
              have hEr := hEo.out.trans hwr
              have q0 := hwr.keep P0
              have q1 := hwr.keep P1
              by_cases hlt : m + 1 < n
              · have hm2 : m + 1 + 1 ≤ n := hlt
                obtain ⟨i, j, hi, hj, hx, hy, hor⟩ := HS2.out m hlt
                obtain ⟨b4, o4, e4, d1⟩ := (HRR.out.ext hEr).at_ hx
                injection e4 with e4
                injection e4 with e4 e5
                subst e4
                subst e5
                obtain ⟨b4, o4, e4, d2⟩ := (HRR.out.ext hEr).at_ hy
                injection e4 with e4
                injection e4 with e4 e5
                subst e4
                subst e5
                obtain ⟨b4, o4, e4, d3⟩ := (HRP.out.ext hEr).at_ (rowL_at (f := scoV (borW n) vs) hi)
                injection e4 with e4
                injection e4 with e4 e5
                subst e4
                subst e5
                obtain ⟨b4, o4, e4, d4⟩ := (HRP.out.ext hEr).at_ (rowL_at (f := scoV (borW n) vs) hj)
                injection e4 with e4
                injection e4 with e4 e5
                subst e4
                subst e5
                generalize scoV (borW n) vs i = A at d3 hor
                generalize scoV (borW n) vs j = B at d4 hor
                have HM1 : Hid (m + 1 ≤ n) := hide hm
                clear hx hy
                rcases hor with hba | ⟨heq, hij⟩
                · have g1 : ¬ A < B := by omega
                  have g2 : (A == B) = false := by rw [beq_eq_false_iff_ne]; omega
                  clear hba
                  go_wp2_with fail
                  refine wp_region_X (by kernel_rfl) (by kernel_rfl) ?_
                  repeat' (refine wpX_stepQ (fun K hK => ?_)
                           go_simp
                           try (rw [if_neg (by intro h; simp [undef] at h)])
                           try split
                           all_goals
                             first
                             | (refine hK _ ?_
                                clear hK K)
                             | (apply Exists.intro
                                refine ⟨fun wq hwq => ?_, hK _ ?_⟩
                                · have hcq := hwq.cellS
                                  go_simp
                                  first
                                  | exact ⟨Ext.refl _, rfl⟩
                                clear hK K))
                  refine wpX_nil (fun wz hwz => ?_)
                  go_wp2
                  exact ⟨⟨m + 1, hm2, by go_num, hwr.trans hwz⟩, by simp [intOf]; omega⟩
                · subst heq
                  have g1 : ¬ (j : Int) < (i : Int) := by omega
                  have g2 : ¬ j < i := by omega
                  clear hij
                  go_wp2_with fail
                  have hy : IntKind.i64.wrap (m : Int) = (m : Int) ∧ IntKind.i64.wrap ((m : Int) + 1 - 1) = (m : Int) := ⟨IntWalk.i64_in _ (by omega), by rw [IntWalk.i64_in _ (by omega)]; omega⟩
                  obtain ⟨y1, y2⟩ := hy
                  have hmn : m < n := by omega
                  refine wp_region_X (by kernel_rfl) (by kernel_rfl) ?_
                  repeat' (refine wpX_stepQ (fun K hK => ?_)
                           go_simp
                           try (rw [if_neg (by intro h; simp [undef] at h)])
                           try split
                           all_goals
                             first
                             | (refine hK _ ?_
                                clear hK K)
                             | (apply Exists.intro
                                refine ⟨fun wq hwq => ?_, hK _ ?_⟩
                                · have hcq := hwq.cellS
                                  go_simp
                                  first
                                  | exact ⟨Ext.refl _, rfl⟩
                                clear hK K))
                  refine wpX_nil (fun wz hwz => ?_)
                  go_wp2
                  exact ⟨⟨m + 1, hm2, by go_num, hwr.trans hwz⟩, by simp [intOf]; omega⟩
              · as_aux_lemma =>
                  go_wp2_with fail
                  refine (HSW.out _ hEr).mono ?_
                  rintro e w6 ⟨aw, cw, rfl, hRw, hw6⟩
                  have q0 := hw6.keep q0
                  have q1 := hw6.keep q1
                  have hEr := hEr.trans hw6
                  clear hw6 hwr
                  go_wp2_with fail
                  refine (HLO.out _ hEr).mono ?_
                  rintro e w7 ⟨rfl, hw7⟩
                  have q0 := hw7.keep q0
                  have q1 := hw7.keep q1
                  have hEr := hEr.trans hw7
                  have hRw := hRw.ext hw7
                  clear hw7
                  go_wp2_with fail
                  refine wp_region_X (by kernel_rfl) (by kernel_rfl) ?_
                  repeat' (refine wpX_stepQ (fun K hK => ?_)
                           go_simp
                           try (rw [if_neg (by intro h; simp [undef] at h)])
                           try split
                           all_goals
                             first
                             | (refine hK _ ?_
                                clear hK K)
                             | (apply Exists.intro
                                refine ⟨fun wq hwq => ?_, hK _ ?_⟩
                                · have hcq := hwq.cellS
                                  go_simp
                                  first
                                  | exact ⟨Ext.refl _, rfl⟩
                                clear hK K))
                  refine wpX_stepS rfl (by kernel_rfl) (fun K hK wq hwq => ?_)
                  go_simp
                  refine (HVE.out _).mono ?_
                  rintro e w8 ⟨av, cv, rfl, hRe, hw8⟩
                  refine ⟨hw8, hK _ _ ?_⟩
                  clear hK K
                  have hE8 := hEr.trans (hwq.trans hw8)
                  have hRw := hRw.ext (hwq.trans hw8)
                  have q0 := (hwq.trans hw8).keep q0
                  have q1 := (hwq.trans hw8).keep q1
                  clear hwq hw8
                  refine wpX_stepS rfl (by kernel_rfl) (fun K hK wq hwq => ?_)
                  go_simp
                  refine (HSV.out _ av cv (hE8.trans hwq) (hRe.ext hwq)).mono ?_
                  rintro e w9 ⟨au, cu, rfl, hRu, hw9⟩
                  refine ⟨hw9, hK _ _ ?_⟩
                  clear hK K
                  have hE9 := hE8.trans (hwq.trans hw9)
                  have hRw := hRw.ext (hwq.trans hw9)
                  have q0 := (hwq.trans hw9).keep q0
                  have q1 := (hwq.trans hw9).keep q1
                  clear hwq hw9 hE8 hRe hEr
                  repeat' (refine wpX_stepQ (fun K hK => ?_)
                           go_simp
                           try (rw [if_neg (by intro h; simp [undef] at h)])
                           try split
                           all_goals
                             first
                             | (refine hK _ ?_
                                clear hK K)
                             | (apply Exists.intro
                                refine ⟨fun wq hwq => ?_, hK _ ?_⟩
                                · have hcq := hwq.cellS
                                  go_simp
                                  first
                                  | exact ⟨Ext.refl _, rfl⟩
                                clear hK K))
                  refine wpX_nil (fun wz hwz => ?_)
                  have hE9 := hE9.trans hwz
                  have hRw := hRw.ext hwz
                  have hRu := hRu.ext hwz
                  have q0 := hwz.keep q0
                  have q1 := hwz.keep q1
                  clear hwz
                  go_wp2_with fail
                  refine (HLP.out _ hE9).mono ?_
                  rintro e w10 ⟨al, cl, rfl, hRl, hw10⟩
                  have q0 := hw10.keep q0
                  have q1 := hw10.keep q1
                  have hE10 := hE9.trans hw10
                  have hRw := hRw.ext hw10
                  have hRu := hRu.ext hw10
                  have dz := hE10.keep dz
                  obtain ⟨bw, ow, rfl, dw⟩ := hRw.at_ HB0.out
                  rw [Nat.add_zero] at dw
                  obtain ⟨bu, ou, rfl, hju⟩ := hRu.at_ (rowL_at (f := scoV (vetW n) vs) (j := 0) (by omega))
                  obtain ⟨bl, ol, rfl, hju2⟩ := hRl.at_ (rowL_at (f := lstV n vs) (j := 0) (by omega))
                  clear hw10 hE9 hju hju2
                  obtain ⟨wd, hwd⟩ : ∃ wd : World, wd = w10 := ⟨_, rfl⟩
                  subst hwd
                  have R0 := q0
                  have R1 := q1
                  have HEd := hide hE10
                  have HRu := hide hRu
                  have HRl := hide hRl
                  have HRw := hide hRw
                  have DW := hide dw
                  have DZ := hide dz
                  have hwT := hWb
                  clear hE10 hRu hRl hRw dw dz HSW HLO HVE HSV HLP HS2
                  go_wp2_with fail
                  go_loopw [18] (fun i wr => ∃ k : Nat, k ≤ n ∧ i = .int .i64 k ∧ Ext wd wr) (fun i _ => n - (intOf i).toNat)
                  case atStart => exact ⟨0, Nat.zero_le _, rfl, Ext.refl _⟩
                  case round =>
                    obtain ⟨k, hk, rfl, hwr⟩ := hrel
                    have q0 := hwr.keep R0
                    have q1 := hwr.keep R1
                    have hEr := HEd.out.trans hwr
                    by_cases hgo : k < n ∧ 1 < n
                    · obtain ⟨hlt, hn2⟩ := hgo
                      have hn3 : (1 : Int) < (n : Int) := by omega
                      have hk1 : k + 1 ≤ n := hlt
                      obtain ⟨b4, o4, e4, d1⟩ := (HRu.out.ext hwr).at_ (rowL_at (f := scoV (vetW n) vs) hlt)
                      injection e4 with e4
                      injection e4 with e4 e5
                      subst e4
                      subst e5
                      obtain ⟨b4, o4, e4, d2⟩ := (HRl.out.ext hwr).at_ (rowL_at (f := lstV n vs) hlt)
                      injection e4 with e4
                      injection e4 with e4 e5
                      subst e4
                      subst e5
                      obtain ⟨g1, g2, g3, g4⟩ := HVL.out k hlt
                      have HCc := hide (fun W (hW : Ext wr W) => HCb.out W (hEr.trans hW))
                      generalize scoV (vetW n) vs k = A at d1 g1 g2
                      generalize lstV n vs k = B at d2 g1 g3
                      have y1 : IntKind.i64.wrap (A + B) = V := by rw [IntWalk.i64_in _ (by omega)]; exact g1
                      clear g1 g2 g3 g4
                      go_wp2_with fail
                      refine wp_region_X (by kernel_rfl) (by kernel_rfl) ?_
                      repeat' (refine wpX_stepQ (fun K hK => ?_)
                               go_simp
                               try (rw [if_neg (by intro h; simp [undef] at h)])
                               try split
                               all_goals
                                 first
                                 | (refine hK _ ?_
                                    clear hK K)
                                 | (apply Exists.intro
                                    refine ⟨fun wq hwq => ?_, hK _ ?_⟩
                                    · have hcq := hwq.cellS
                                      go_simp
                                      first
                                      | exact ⟨Ext.refl _, rfl⟩
                                      | exact ⟨Ext.refl _, HCc.out _ (by repeat (first | exact Ext.refl _ | assumption | refine Ext.alloc ?_ _ | refine Ext.drew ?_ | refine Ext.trans ?_ (by assumption)))⟩
                                    clear hK K))
                      refine wpX_nil (fun wz hwz => ?_)
                      go_wp2
                      exact ⟨⟨k + 1, hk1, by go_num, hwr.trans hwz⟩, by simp [intOf]; omega⟩
                    · have dw := hwr.keep DW.out
                      have dz := hwr.keep DZ.out
                      have hRw := HRw.out.ext hwr
                      have t1 : ((WL.length : Int) == 0) = false := by rw [beq_eq_false_iff_ne]; omega
                      have t2 : (0 : Int) < (WL.length : Int) := by omega
                      have HHL : Hid (∀ W, Ext wr W → Calls Try.prog 17 #[.slice (some ⟨bw, ow, none⟩) WL.length cw, .int .i64 LO] W fun e w' => e = .returned (.bool (hasI WL LO)) ∧ Ext W w') := hide (fun W hW => has_law W _ _ cw WL LO rfl (hRw.ext hW) (by omega))
                      have HPc := hide (fun W (hW : Ext wr W) av cv => HSP.out W av cv (hEr.trans hW))
                      have HFc := hide (fun W (hW : Ext wr W) => HFP.out W (hEr.trans hW))
                      have HSM : Hid (∀ W a1 c1 a2 c2, RdI W a1 (rowL n (scoV pluW vs)) → RdI W a2 (rowL n (scoV pluW vs)) → ∀ W', Ext W W' → Calls Try.prog 47 #[.slice a1 n c1, .slice a2 n c2] W' fun e w' => e = .returned (.bool true) ∧ Ext W' w') := hide (fun W a1 c1 a2 c2 h1 h2 W' hW => same_law W' a1 a2 n n c1 c2 _ (rowL_len _ _).symm (rowL_len _ _).symm (h1.ext hW) (h2.ext hW) (by rw [rowL_len]; omega))
                      have hwE := hwT.trans hEr
                      by_cases hn1 : n = 1
                      · have hn3 : ¬ (1 : Int) < (n : Int) := by omega
                        have hn4 : ((n : Int) == 1) = true := by rw [beq_iff_eq]; omega
                        clear hgo hRw HSP HFP hn1
                        by_cases hkn : k < n
                        all_goals
                          as_aux_lemma =>
                            go_wp2_with fail
                            refine wp_region_O (0 :: 1 :: 2 :: 3 :: 4 :: 5 :: 6 :: 7 :: 8 :: 9 :: 10 :: 11 :: 12 :: 13 :: 14 :: 15 :: 16 :: 17 :: 18 :: 19 :: 20 :: 21 :: 22 :: 23 :: 24 :: 27 :: 25 :: 26 :: 28 :: 29 :: 30 :: 31 :: []) (by kernel_rfl) rfl (by kernel_rfl) ?_
                            repeat' (refine wpO_stepQ rfl (fun K hK => ?_)
                                     go_simp
                                     try (rw [if_neg (by intro h; simp [undef] at h)])
                                     try split
                                     all_goals
                                       first
                                       | (refine hK _ ?_
                                          clear hK K)
                                       | (apply Exists.intro
                                          refine ⟨fun wq hwq => ?_, hK _ ?_⟩
                                          · have hcq := hwq.cellS
                                            go_simp
                                            first
                                            | exact ⟨Ext.refl _, rfl⟩
                                          clear hK K))
                            refine wpO_stepS rfl (by kernel_rfl) (fun K hK wq hwq => ?_)
                            go_simp
                            refine (HPL.out _).mono ?_
                            rintro e w11 ⟨av, cv, rfl, hRv, hw11⟩
                            refine ⟨hw11, hK _ _ ?_⟩
                            clear hK K
                            have hE11 := hwq.trans hw11
                            have q0 := hE11.keep q0
                            have q1 := hE11.keep q1
                            clear hwq hw11
                            refine wpO_stepS rfl (by kernel_rfl) (fun K hK wq hwq => ?_)
                            go_simp
                            refine (HPc.out _ (hE11.trans hwq) av cv (hRv.ext hwq)).mono ?_
                            rintro e w12 ⟨au2, cu2, rfl, hRx, hw12⟩
                            refine ⟨hw12, hK _ _ ?_⟩
                            clear hK K
                            have hE12 := hE11.trans (hwq.trans hw12)
                            clear hwq hw12 hRv hE11
                            refine wpO_stepS rfl (by kernel_rfl) (fun K hK wq hwq => ?_)
                            go_simp
                            refine (HFc.out _ (hE12.trans hwq)).mono ?_
                            rintro e w13 ⟨af, cf, rfl, hRf, hw13⟩
                            refine ⟨hw13, hK _ _ ?_⟩
                            clear hK K
                            have hE13 := hE12.trans (hwq.trans hw13)
                            have HSS := hide (HSM.out w13 au2 cu2 af cf (hRx.ext (hwq.trans hw13)) hRf)
                            clear hwq hw13 hRx hRf hE12
                            refine wpO_stepQ rfl (fun K hK => ?_)
                            go_simp
                            apply Exists.intro
                            refine ⟨fun wq hwq => ?_, hK _ ?_⟩
                            · have hcq := hwq.cellS
                              go_simp
                              exact ⟨Ext.refl _, HSS.out _ hwq⟩
                            clear hK K
                            repeat' (refine wpO_stepQ rfl (fun K hK => ?_)
                                     go_simp
                                     try (rw [if_neg (by intro h; simp [undef] at h)])
                                     try split
                                     all_goals
                                       first
                                       | (refine hK _ ?_
                                          clear hK K)
                                       | (apply Exists.intro
                                          refine ⟨fun wq hwq => ?_, hK _ ?_⟩
                                          · have hcq := hwq.cellS
                                            go_simp
                                            first
                                            | exact ⟨Ext.refl _, rfl⟩
                                          clear hK K))
                            refine wpO_nil (fun wz hwz => ?_)
                            go_wp2
                            go_ret
                            exact ⟨rfl, (hwE.trans hE13).trans hwz⟩
                      · have hn2 : 2 ≤ n := by omega
                        have hlt : ¬ k < n := fun h => hgo ⟨h, by omega⟩
                        have hn3 : (1 : Int) < (n : Int) := by omega
                        have hn4 : ((n : Int) == 1) = false := by rw [beq_eq_false_iff_ne]; omega
                        have hHN := HLN.out hn2
                        rw [hHN] at HHL
                        clear hgo hRw HSP HFP hn1 hHN
                        as_aux_lemma =>
                          go_wp2_with fail
                          refine wp_region_O (0 :: 1 :: 2 :: 3 :: 4 :: 5 :: 6 :: 7 :: 8 :: 9 :: 10 :: 11 :: 12 :: 13 :: 14 :: 15 :: 16 :: 17 :: 18 :: 19 :: 20 :: 21 :: 22 :: 23 :: 24 :: 27 :: 25 :: 26 :: 28 :: 29 :: 30 :: 31 :: []) (by kernel_rfl) rfl (by kernel_rfl) ?_
                          repeat' (refine wpO_stepQ rfl (fun K hK => ?_)
                                   go_simp
                                   try (rw [if_neg (by intro h; simp [undef] at h)])
                                   try split
                                   all_goals
                                     first
                                     | (refine hK _ ?_
                                        clear hK K)
                                     | (apply Exists.intro
                                        refine ⟨fun wq hwq => ?_, hK _ ?_⟩
                                        · have hcq := hwq.cellS
                                          go_simp
                                          first
                                          | exact ⟨Ext.refl _, rfl⟩
                                        clear hK K))
                          refine wpO_stepQ rfl (fun K hK => ?_)
                          go_simp
                          apply Exists.intro
                          refine ⟨fun wq hwq => ?_, hK _ ?_⟩
                          · have hcq := hwq.cellS
                            go_simp
                            exact ⟨Ext.refl _, HHL.out _ hwq⟩
                          clear hK K
                          repeat' (refine wpO_stepQ rfl (fun K hK => ?_)
                                   go_simp
                                   try (rw [if_neg (by intro h; simp [undef] at h)])
                                   try split
                                   all_goals
                                     first
                                     | (refine hK _ ?_
                                        clear hK K)
                                     | (apply Exists.intro
                                        refine ⟨fun wq hwq => ?_, hK _ ?_⟩
                                        · have hcq := hwq.cellS
                                          go_simp
                                          first
                                          | exact ⟨Ext.refl _, rfl⟩
                                        clear hK K))
                          refine wpO_stepS rfl (by kernel_rfl) (fun K hK wq hwq => ?_)
                          go_simp
                          refine (HPL.out _).mono ?_
                          rintro e w11 ⟨av, cv, rfl, hRv, hw11⟩
                          refine ⟨hw11, hK _ _ ?_⟩
                          clear hK K
                          have hE11 := hwq.trans hw11
                          have q0 := hE11.keep q0
                          have q1 := hE11.keep q1
                          clear hwq hw11
                          refine wpO_stepS rfl (by kernel_rfl) (fun K hK wq hwq => ?_)
                          go_simp
                          refine (HPc.out _ (hE11.trans hwq) av cv (hRv.ext hwq)).mono ?_
                          rintro e w12 ⟨au2, cu2, rfl, hRx, hw12⟩
                          refine ⟨hw12, hK _ _ ?_⟩
                          clear hK K
                          have hE12 := hE11.trans (hwq.trans hw12)
                          clear hwq hw12 hRv hE11
                          refine wpO_stepS rfl (by kernel_rfl) (fun K hK wq hwq => ?_)
                          go_simp
                          refine (HFc.out _ (hE12.trans hwq)).mono ?_
                          rintro e w13 ⟨af, cf, rfl, hRf, hw13⟩
                          refine ⟨hw13, hK _ _ ?_⟩
                          clear hK K
                          have hE13 := hE12.trans (hwq.trans hw13)
                          have HSS := hide (HSM.out w13 au2 cu2 af cf (hRx.ext (hwq.trans hw13)) hRf)
                          clear hwq hw13 hRx hRf hE12
                          refine wpO_stepQ rfl (fun K hK => ?_)
                          go_simp
                          apply Exists.intro
                          refine ⟨fun wq hwq => ?_, hK _ ?_⟩
                          · have hcq := hwq.cellS
                            go_simp
                            exact ⟨Ext.refl _, HSS.out _ hwq⟩
                          clear hK K
                          repeat' (refine wpO_stepQ rfl (fun K hK => ?_)
                                   go_simp
                                   try (rw [if_neg (by intro h; simp [undef] at h)])
                                   try split
                                   all_goals
                                     first
                                     | (refine hK _ ?_
                                        clear hK K)
                                     | (apply Exists.intro
                                        refine ⟨fun wq hwq => ?_, hK _ ?_⟩
                                        · have hcq := hwq.cellS
                                          go_simp
                                          first
                                          | exact ⟨Ext.refl _, rfl⟩
                                        clear hK K))
                          refine wpO_nil (fun wz hwz => ?_)
                          go_wp2
                          go_ret
                          exact ⟨rfl, (hwE.trans hE13).trans hwz⟩
  · go_enter Try.func5, Try.ntmps5
    go_wp2
    go_ret
    exact ⟨rfl, (by repeat (first | exact Ext.refl _ | assumption | refine Ext.alloc ?_ _ | refine Ext.drew ?_ | refine Ext.trans ?_ (by assumption)))⟩

section
open Go.ChangeShapes Go.WideShapes Go.ChangeAt Go.RowKit Go.Joins Go.Deep
set_option maxRecDepth 100000 in
theorem fnScores_lifted (os : Os) (started : os.Started) (H : Type) (enc : TypeId × Value → H) :
    ReturnsInHanded {} Try.checked os 5 .any (Rows.fnScoresSpec.pre6 enc Try.prog Try.f5 Rows.fnScoresRow.domain false) (Rows.fnScoresSpec.post enc Try.prog Try.f5 false true false false) := by
  refine returnsInHanded_of_change (C := Try.checked) own started (by kernel_rfl) Try.func5
    (ChangeSpec.witness6 (enc := enc) (C := Try.checked) false ⟨#[], #[.slice Option.none 0 0], []⟩ 8 (by kernel_rfl) (by kernel_rfl) (by kernel_rfl) (by kernel_rfl)) ?_
  intro W base args ds gs before hval0 hW hcnd _
  have hval : ∀ (j : Nat) t v, Try.f5.params[j]? = some t → args[j]? = some v → Value.okWide Try.prog W .any base t v := hval0
  have hW' := hW
  obtain ⟨p, q, hA0, hV, rfl, hfz, hnd⟩ := hW
  have hA : DataW.TrodAll enc Try.prog W 0 (fun _ => true) true Try.f5.params.toList args.toList ds p := hA0
  rw [Try.params5] at hA hval
  obtain ⟨v0, vs0, d0, ds0, p0, q0, hargs, rfl, rfl, h0, r0⟩ := trodAll_cons hA
  obtain ⟨rfl, rfl, rfl⟩ := trodAll_nil r0
  obtain rfl : args = #[v0] := by cases args; simp_all
  obtain ⟨rfl, rfl⟩ := trodVars_none hV
  have k0 := h0
  have lt0 : ∀ x ∈ p0, x.block < W.heap.size := by obtain ⟨m, hm⟩ := k0; exact DataW.trod_lt m _ _ _ hm
  obtain ⟨a0, bs0, c0, rfl, hR0, hl0⟩ := openY (hval 0 22 v0 rfl rfl) h0
  clear hA0 hval0
  refine (scs_law W a0 c0 bs0 hR0 hl0).mono fun e W' ⟨he, bel⟩ => ?_
  subst he
  exact ⟨_, rfl, _, _, _, [], _, [], hW', trodAll_mk1 (shut_bool Try.underlying4 _), (trodAll_cons_mk (Below.trod laidOut (by kernel_rfl) (of_decide_eq_true (by kernel_rfl)) k0 bel lt0) trodAll_mk0), rfl, bel.frame _, fun h => by cases h⟩

set_option maxRecDepth 100000 in
theorem fnScores_holds : Rows.FnScoresSaid :=
  OpenClaim.holds_of_wide 5 Try.f5 rfl rfl rfl rfl rfl rfl rfl ⟨rfl, rfl, rfl, rfl, rfl⟩ rfl rfl rfl rfl rfl (by kernel_rfl) Try.func5 (by kernel_rfl)
    (of_decide_eq_true (by kernel_rfl)) (by unfold Func.isWrapper; first | (rw [if_pos (by decide +kernel)]; kernel_rfl) | (rw [if_neg (by decide +kernel)]; exact ⟨rfl, rfl⟩))
    (fun os started H enc _ => fnScores_lifted os started H enc)
#print axioms fnScores_holds
end

end Go.Proofs.Ythiojkpoeejkaaa
