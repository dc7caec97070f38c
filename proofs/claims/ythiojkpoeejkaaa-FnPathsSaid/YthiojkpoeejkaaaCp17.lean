/- The level and the winner of Bucklin's rule. The winner of Bucklin's rule. What holds of scores and their order (plain law). What holds of the top cycle (plain law). slices.Concat of two lists of integers. -/
import Derived.Test.YthiojkpoeejkaaaCp6
import Derived.Test.YthiojkpoeejkaaaCp16
import Derived.Test.YthiojkpoeejkaaaCp15
import Derived.Test.YthiojkpoeejkaaaCp10
import Derived.Test.YthiojkpoeejkaaaCp12
import Derived.Test.YthiojkpoeejkaaaCp14
import Derived.Test.YthiojkpoeejkaaaCp9
import Derived.Lib.AppendZeros
namespace Go.Proofs.Ythiojkpoeejkaaa
open Go.RowKit

def bukA (vs : List Vt) (k a : Nat) : Bool := decide (allV vs < 2 * wthV vs k a)
def bukN (n : Nat) (vs : List Vt) (k : Nat) : Bool := allN n (fun a => !bukA vs k a)
def levV (n : Nat) (vs : List Vt) : Nat := match (List.range n).find? (fun j => !bukN n vs (j + 1)) with
  | some j => j + 1
  | none => 0
set_option maxRecDepth 100000 in
theorem levV_at {n : Nat} {vs : List Vt} {j : Nat} (hj : j < n) (h : ∀ i, i < j → bukN n vs (i + 1) = true) (hh : bukN n vs (j + 1) = false) : levV n vs = j + 1 := by
  have e : (List.range n).find? (fun j => !bukN n vs (j + 1)) = some j := by
    rw [List.find?_range_eq_some]
    exact ⟨by simp [hh], List.mem_range.2 hj, fun i hi => by simp [h i hi]⟩
  unfold levV; rw [e]
set_option maxRecDepth 100000 in
theorem levV_none {n : Nat} {vs : List Vt} (h : ∀ i, i < n → bukN n vs (i + 1) = true) : levV n vs = 0 := by
  have e : (List.range n).find? (fun j => !bukN n vs (j + 1)) = none := by
    rw [List.find?_range_eq_none]
    exact fun i hi => by simp [h i hi]
  unfold levV; rw [e]
set_option maxRecDepth 100000 in
theorem levV_le (n : Nat) (vs : List Vt) : levV n vs ≤ n := by
  unfold levV
  cases e : (List.range n).find? (fun j => !bukN n vs (j + 1)) with
  | none => simp
  | some j =>
    have := List.mem_of_find?_eq_some e
    have := List.mem_range.1 this
    simp; omega
def levO (sz : Int) (vs : List Vt) : Int := if profOk sz vs then (levV sz.toNat vs : Int) else -1
def bukO (sz : Int) (vs : List Vt) : Int := if profOk sz vs then (bestL (rowL sz.toNat (wthV vs (levV sz.toNat vs)))).headD 0 else -1

set_option maxRecDepth 100000 in
theorem wth_full {n : Nat} {vs : List Vt} (hS : SmallV n vs) {a : Nat} (ha : a < n) : wthV vs n a = allV vs := by
  unfold wthV allV
  exact sumV_congr fun x hx => by
    obtain ⟨p, hp, hpl, _⟩ := place_at (hS.2 x hx).1 ha
    simp only [wthP, hpl, decide_eq_true_eq]; omega
set_option maxRecDepth 100000 in
theorem allV_pos {n : Int} : ∀ {vs : List Vt}, SmallV n vs → vs ≠ [] → 1 ≤ allV vs
  | [], _, h => absurd rfl h
  | x :: vs, hS, _ => by
    have h1 := (hS.2 x (by simp)).2.1
    have h2 : 0 ≤ allV vs ∧ _ := sumV_bd' hS.tail (p := fun _ => true)
    have h3 : allV (x :: vs) = x.2 + allV vs := by unfold allV; rw [sumV_cons]; simp
    omega
set_option maxRecDepth 100000 in
theorem buk_end {n : Nat} {vs : List Vt} (hS : SmallV n vs) (n1 : 1 ≤ n) (hne : vs ≠ []) : bukN n vs n = false := by
  refine allN_f (k := 0) n1 ?_
  have h1 := wth_full hS (a := 0) n1
  have h2 := allV_pos hS hne
  simp only [bukA, h1, Bool.not_eq_false', decide_eq_true_eq]; omega

set_option maxRecDepth 100000 in
theorem max_buk {n : Nat} {vs : List Vt} (n1 : 1 ≤ n) (k : Nat) : (2 * maxL (rowL n (wthV vs k)) ≤ allV vs) ↔ bukN n vs k = true := by
  have hne : rowL n (wthV vs k) ≠ [] := fun e => by have := rowL_len n (wthV vs k); rw [e] at this; simp at this; omega
  constructor
  · intro h
    refine allN_t fun j hj => ?_
    have h1 := maxL_ge (List.mem_of_getElem? (rowL_at (f := wthV vs k) hj))
    simp only [bukA, Bool.not_eq_true', decide_eq_false_iff_not]; omega
  · intro h
    obtain ⟨j, hj⟩ := List.mem_iff_getElem?.1 (maxL_mem hne)
    obtain ⟨hjn, e⟩ := rowL_val hj
    have h1 := allN_iff.1 h j hjn
    simp only [bukA, Bool.not_eq_true', decide_eq_false_iff_not] at h1
    rw [e]; omega

set_option maxRecDepth 100000 in
set_option maxHeartbeats 2000000 in
theorem levO_impl (w : World) (sz : Int) (a : Option Addr) (c : Nat) (vs : List Vt) (hR : RdV w a vs) :
    Calls Try.prog 75 #[.agg #[.int .i64 sz, .slice a vs.length c]] w fun e w' => e = .returned (.int .i64 (levO sz vs)) ∧ Ext w w' := by
  have q0 := new0 w (.int .i64 sz) [.slice a vs.length c] 47
  have q1 := new1 w (.int .i64 sz) (.slice a vs.length c) [] 47
  cases h0 : profOk sz vs
  · go_enter Try.func75, Try.ntmps75
    go_wp2_with (go_at_call 35; refine (prof_impl _ _ _ _ _ (hR.ext (by repeat (first | exact Ext.refl _ | assumption | refine Ext.alloc ?_ _ | refine Ext.drew ?_ | refine Ext.trans ?_ (by assumption))))).mono ?_; rintro e w1 ⟨rfl, hw1⟩; have q0 := Ext.keep (w' := w1) (by repeat (first | exact Ext.refl _ | assumption | refine Ext.alloc ?_ _ | refine Ext.drew ?_ | refine Ext.trans ?_ (by assumption))) q0; have q1 := Ext.keep (w' := w1) (by repeat (first | exact Ext.refl _ | assumption | refine Ext.alloc ?_ _ | refine Ext.drew ?_ | refine Ext.trans ?_ (by assumption))) q1)
    go_ret
    exact ⟨ret_int (by simp [levO, h0]), (by repeat (first | exact Ext.refl _ | assumption | refine Ext.alloc ?_ _ | refine Ext.drew ?_ | refine Ext.trans ?_ (by assumption)))⟩
  obtain ⟨n, rfl, n1, n2⟩ := prof_nat h0
  have HP := hide h0
  have HS := hide (prof_small h0)
  have hl24 := (prof_small h0).1
  by_cases hz : vs = []
  · have hz2 : ((vs.length : Int) == 0) = true := by rw [hz]; rfl
    have HZ := hide hz
    clear hz
    go_enter Try.func75, Try.ntmps75
    go_wp2_with (go_at_call 35; refine (prof_impl _ _ _ _ _ (hR.ext (by repeat (first | exact Ext.refl _ | assumption | refine Ext.alloc ?_ _ | refine Ext.drew ?_ | refine Ext.trans ?_ (by assumption))))).mono ?_; rintro e w1 ⟨rfl, hw1⟩; have q0 := Ext.keep (w' := w1) (by repeat (first | exact Ext.refl _ | assumption | refine Ext.alloc ?_ _ | refine Ext.drew ?_ | refine Ext.trans ?_ (by assumption))) q0; have q1 := Ext.keep (w' := w1) (by repeat (first | exact Ext.refl _ | assumption | refine Ext.alloc ?_ _ | refine Ext.drew ?_ | refine Ext.trans ?_ (by assumption))) q1)
    go_ret
    refine ⟨ret_int ?_, (by repeat (first | exact Ext.refl _ | assumption | refine Ext.alloc ?_ _ | refine Ext.drew ?_ | refine Ext.trans ?_ (by assumption)))⟩
    simp only [levO, h0, if_true, Int.toNat_natCast]
    rw [levV_none (fun i hi => allN_t fun j hj => by rw [HZ.out]; simp [bukA, allV, wthV, sumV])]
    rfl
  · have hpos : 1 ≤ vs.length := by
      cases vs with
      | nil => exact absurd rfl hz
      | cons => simp
    have hz2 : ((vs.length : Int) == 0) = false := by simp; exact hz
    have HE := hide (buk_end HS.out n1 hz)
    clear hz
    go_enter Try.func75, Try.ntmps75
    go_wp2_with (go_at_call 35; refine (prof_impl _ _ _ _ _ (hR.ext (by repeat (first | exact Ext.refl _ | assumption | refine Ext.alloc ?_ _ | refine Ext.drew ?_ | refine Ext.trans ?_ (by assumption))))).mono ?_; rintro e w1 ⟨rfl, hw1⟩; have q0 := Ext.keep (w' := w1) (by repeat (first | exact Ext.refl _ | assumption | refine Ext.alloc ?_ _ | refine Ext.drew ?_ | refine Ext.trans ?_ (by assumption))) q0; have q1 := Ext.keep (w' := w1) (by repeat (first | exact Ext.refl _ | assumption | refine Ext.alloc ?_ _ | refine Ext.drew ?_ | refine Ext.trans ?_ (by assumption))) q1)
    have hw : Ext w w1 := (by repeat (first | exact Ext.refl _ | assumption | refine Ext.alloc ?_ _ | refine Ext.drew ?_ | refine Ext.trans ?_ (by assumption)))
    have hR0 := hR.ext hw
    obtain ⟨wb, hwb⟩ : ∃ wb : World, wb = w1 := ⟨_, rfl⟩
    subst hwb
    have b2 : 0 ≤ allV vs ∧ allV vs ≤ 24000 := sumV_bd' HS.out
    go_loopw [3] (fun i wr => ∃ k : Nat, k + 1 ≤ n ∧ i = .int .i64 ((k + 1 : Nat) : Int) ∧ Hid (∀ j, j < k → bukN n vs (j + 1) = true) ∧ Ext wb wr) (fun i _ => n + 1 - (intOf i).toNat)
    case atStart => exact ⟨0, n1, rfl, fun j hj => absurd hj (by omega), Ext.refl _⟩
    case round =>
      obtain ⟨k, hk, rfl, hall, hwr⟩ := hrel
      have r0 := hwr.keep q0
      have r1 := hwr.keep q1
      have hRr := hR0.ext hwr
      obtain ⟨s, hs⟩ : ∃ s : Nat, s = k + 1 := ⟨_, rfl⟩
      rw [← hs]
      have HK := hide hs
      have hs1 : k + 1 ≤ s := by omega
      have hs2 : s ≤ k + 1 := by omega
      clear hs
      obtain ⟨M, hM⟩ : ∃ M : Int, M = maxL (rowL n (wthV vs s)) := ⟨_, rfl⟩
      have hne : rowL n (wthV vs s) ≠ [] := fun e => by have := rowL_len n (wthV vs s); rw [e] at this; simp at this; omega
      obtain ⟨j, hj⟩ := List.mem_iff_getElem?.1 (maxL_mem hne)
      obtain ⟨hjn, hjv⟩ := rowL_val hj
      have b1 := wthV_bd HS.out s j
      rw [← hjv, ← hM] at b1
      have hmb := max_buk (vs := vs) n1 s
      rw [← hM] at hmb
      have HMB := hide hmb
      have HM := hide hM
      clear hM hne hj hjv hjn hmb
      have y1 : wrap64 (2 * M) = 2 * M := IntWalk.wrap64_in _ (by omega)
      have y2 : IntKind.i64.wrap (2 * M) = 2 * M := IntWalk.i64_in _ (by omega)
      have HC : Hid (∀ w', Ext wb w' → Calls Try.prog 25 #[.agg #[.int .i64 n, .slice a vs.length c]] w' fun e w'' => e = .returned (.int .i64 (allV vs)) ∧ Ext w' w'') := fun w' hw' =>
        (count_impl w' n a c vs (hR0.ext hw')).mono fun _ _ ⟨h1, h2⟩ => ⟨by rw [h1, if_pos h0], h2⟩
      go_wp2
      refine wp_region_O [0, 1, 5, 2, 3, 4, 6, 7] (by kernel_rfl) rfl (by kernel_rfl) ?_
      repeat' (refine wpO_stepQ rfl (fun K hK => ?_)
               go_simp
               try (rw [if_neg (by intro h; simp [undef] at h)])
               try split
               all_goals
                 first
                 | (refine hK _ ?_
                    clear hK K)
                 | (apply Exists.intro
                    refine ⟨fun wq hwq => ?_, hK _ ?_⟩
                    · have hcq := hwq.cellS
                      go_simp
                      first
                      | exact ⟨Ext.refl _, rfl⟩
                      | exact ⟨Ext.refl _, HC.out _ (by repeat (first | exact Ext.refl _ | assumption | refine Ext.alloc ?_ _ | refine Ext.drew ?_ | refine Ext.trans ?_ (by assumption)))⟩
                    clear hK K))
      refine wpO_stepS rfl (by kernel_rfl) (fun K hK wq hwq => ?_)
      go_simp
      refine (wth_impl _ n a c vs s (hRr.ext (by repeat (first | exact Ext.refl _ | assumption | refine Ext.alloc ?_ _ | refine Ext.drew ?_ | refine Ext.trans ?_ (by assumption)))) HS.out n2).mono ?_
      rintro e w3 ⟨v, rfl, hv, hw3⟩
      refine ⟨hw3, hK _ _ ?_⟩
      clear hK K
      obtain ⟨av, cv, rfl, _, hRv, _⟩ := hv.fr
      have HX : Hid (∀ w', Ext w3 w' → Calls Try.prog 113 #[.slice av n cv] w' fun e w'' => e = .returned (.int .i64 M) ∧ Ext w' w'') := fun w' hw' => by
        have h := max_impl w' av cv _ (hRv.ext hw') (by rw [rowL_len]; omega) (by rw [rowL_len]; omega)
        rw [rowL_len, ← HM.out] at h
        exact h
      rw [rowL_len]
      repeat' (refine wpO_stepQ rfl (fun K hK => ?_)
               go_simp
               try (rw [if_neg (by intro h; simp [undef] at h)])
               try split
               all_goals
                 first
                 | (refine hK _ ?_
                    clear hK K)
                 | (apply Exists.intro
                    refine ⟨fun wq hwq => ?_, hK _ ?_⟩
                    · have hcq := hwq.cellS
                      go_simp
                      first
                      | exact ⟨Ext.refl _, rfl⟩
                      | exact ⟨Ext.refl _, HX.out _ (by repeat (first | exact Ext.refl _ | assumption | refine Ext.alloc ?_ _ | refine Ext.drew ?_ | refine Ext.trans ?_ (by assumption)))⟩
                      | exact ⟨Ext.refl _, HC.out _ (by repeat (first | exact Ext.refl _ | assumption | refine Ext.alloc ?_ _ | refine Ext.drew ?_ | refine Ext.trans ?_ (by assumption)))⟩
                    clear hK K))
      refine wpO_nil (fun wz hwz => ?_)
      by_cases ht : 2 * M ≤ allV vs
      · go_wp2
        have hkn : k + 1 ≠ n := fun e => by
          have h1 := HMB.out.1 ht
          rw [HK.out, e, HE.out] at h1
          cases h1
        exact ⟨⟨s, by omega, by go_num, fun x hx => by
          rcases Nat.lt_succ_iff_lt_or_eq.1 (show x < k + 1 by omega) with h | h
          · exact hall.out x h
          · rw [h, ← HK.out]; exact HMB.out.1 ht, (by repeat (first | exact Ext.refl _ | assumption | refine Ext.alloc ?_ _ | refine Ext.drew ?_ | refine Ext.trans ?_ (by assumption)))⟩, by simp [intOf]; omega⟩
      · go_wp2
        go_ret
        refine ⟨ret_int ?_, (by repeat (first | exact Ext.refl _ | assumption | refine Ext.alloc ?_ _ | refine Ext.drew ?_ | refine Ext.trans ?_ (by assumption)))⟩
        have h1 : bukN n vs (k + 1) = false := by
          cases hb : bukN n vs (k + 1)
          · rfl
          · exact absurd (HMB.out.2 (by rw [HK.out]; exact hb)) (by omega)
        simp only [levO, h0, if_true, Int.toNat_natCast]
        rw [levV_at (by omega) hall.out h1, HK.out]

set_option maxRecDepth 100000 in
theorem rowL_len_le {n m : Nat} {f : Nat → Int} (h : n ≤ m) : (rowL n f).length ≤ m := by rw [rowL_len]; exact h
set_option maxRecDepth 100000 in
theorem best_first {xs : List Int} (h : 1 ≤ xs.length) : ∃ (i : Nat) (r : List Int), bestL xs = (i : Int) :: r ∧ xs[i]? = some (maxL xs) ∧ i < xs.length ∧ ∀ j, j < i → xs[j]? ≠ some (maxL xs) := by
  have h1 := bestT_head (xs := xs) h (Nat.le_refl _)
  rw [bestT_all, List.take_length] at h1
  exact h1

set_option maxRecDepth 100000 in
set_option maxHeartbeats 2000000 in
theorem bukO_impl (w : World) (sz : Int) (a : Option Addr) (c : Nat) (vs : List Vt) (hR : RdV w a vs) :
    Calls Try.prog 74 #[.agg #[.int .i64 sz, .slice a vs.length c]] w fun e w' => e = .returned (.int .i64 (bukO sz vs)) ∧ Ext w w' := by
  have q0 := new0 w (.int .i64 sz) [.slice a vs.length c] 47
  have q1 := new1 w (.int .i64 sz) (.slice a vs.length c) [] 47
  cases h0 : profOk sz vs
  · have HL : Hid (levO sz vs = -1) := hide (by simp [levO, h0])
    go_enter Try.func74, Try.ntmps74
    go_wp2_with fail
    refine (levO_impl _ sz a c vs (hR.ext (by repeat (first | exact Ext.refl _ | assumption | refine Ext.alloc ?_ _ | refine Ext.drew ?_ | refine Ext.trans ?_ (by assumption))))).mono ?_
    rintro e w1 ⟨rfl, hw1⟩
    rw [HL.out]
    go_wp2
    go_ret
    exact ⟨ret_int (by simp [bukO, h0]), (by repeat (first | exact Ext.refl _ | assumption | refine Ext.alloc ?_ _ | refine Ext.drew ?_ | refine Ext.trans ?_ (by assumption)))⟩
  obtain ⟨n, rfl, n1, n2⟩ := prof_nat h0
  have HS := hide (prof_small h0)
  have hlv := levV_le n vs
  have HL : Hid (levO n vs = (levV n vs : Int)) := hide (by simp [levO, h0])
  obtain ⟨i, r, hb, hmx, hil, hmin⟩ := best_first (xs := rowL n (wthV vs (levV n vs))) (by rw [rowL_len]; exact n1)
  have HO : Hid (bukO n vs = i) := hide (by simp only [bukO, h0, if_true, Int.toNat_natCast, hb, List.headD_cons])
  by_cases hz : levV n vs = 0
  · have hi0 : i = 0 := by
      rcases Nat.eq_zero_or_pos i with h | h
      · exact h
      · have hall : ∀ j, j < n → wthV vs 0 j = 0 := fun j hj => by
          rw [← wth_sum HS.out hj 0]; rfl
        exfalso
        refine hmin 0 h ?_
        rw [← hmx, rowL_at (by omega), rowL_at (by rw [rowL_len] at hil; exact hil), hz, hall 0 (by omega), hall i (by rw [rowL_len] at hil; exact hil)]
    have HI := hide hi0
    have HZ := hide hz
    clear hb hmx hil hmin hi0 hz h0
    go_enter Try.func74, Try.ntmps74
    go_wp2_with fail
    refine (levO_impl _ n a c vs (hR.ext (by repeat (first | exact Ext.refl _ | assumption | refine Ext.alloc ?_ _ | refine Ext.drew ?_ | refine Ext.trans ?_ (by assumption))))).mono ?_
    rintro e w1 ⟨rfl, hw1⟩
    rw [HL.out, HZ.out]
    go_wp2
    go_ret
    exact ⟨ret_int (by rw [HO.out, HI.out]; rfl), (by repeat (first | exact Ext.refl _ | assumption | refine Ext.alloc ?_ _ | refine Ext.drew ?_ | refine Ext.trans ?_ (by assumption)))⟩
  · have hp : ¬ ((levV n vs : Int) < 1) := by omega
    have HB := hide hb
    clear hb hmx hil hmin h0
    go_enter Try.func74, Try.ntmps74
    go_wp2_with fail
    refine (levO_impl _ n a c vs (hR.ext (by repeat (first | exact Ext.refl _ | assumption | refine Ext.alloc ?_ _ | refine Ext.drew ?_ | refine Ext.trans ?_ (by assumption))))).mono ?_
    rintro e w1 ⟨rfl, hw1⟩
    rw [HL.out]
    have q0 := hw1.keep q0
    have q1 := hw1.keep q1
    go_wp2_with fail
    refine (wth_impl _ n a c vs (levV n vs) (hR.ext (by repeat (first | exact Ext.refl _ | assumption | refine Ext.alloc ?_ _ | refine Ext.drew ?_ | refine Ext.trans ?_ (by assumption)))) HS.out n2).mono ?_
    rintro e w3 ⟨v, rfl, hv, hw3⟩
    obtain ⟨av, cv, rfl, _, hRv, _⟩ := hv.fr
    go_wp2_with fail
    refine (gr_impl _ av cv _ (hRv.ext (by repeat (first | exact Ext.refl _ | assumption | refine Ext.alloc ?_ _ | refine Ext.drew ?_ | refine Ext.trans ?_ (by assumption)))) (by rw [rowL_len]; omega)).mono ?_
    rintro e w4 ⟨v2, rfl, hv2, hw4⟩
    obtain ⟨a2, c2, rfl, _, _, hR2, _⟩ := hv2.val
    obtain ⟨b3, off3, rfl, d0⟩ := hR2.at_ (k := 0) (x := (i : Int)) (by rw [HB.out]; rfl)
    rw [Nat.add_zero] at d0
    have hbl : 1 ≤ (bestL (rowL n (wthV vs (levV n vs)))).length := by rw [HB.out]; simp
    clear hv hv2 hRv hR2
    go_wp2
    go_ret
    exact ⟨ret_int HO.out.symm, (by repeat (first | exact Ext.refl _ | assumption | refine Ext.alloc ?_ _ | refine Ext.drew ?_ | refine Ext.trans ?_ (by assumption)))⟩

/-- Greater, or as great and earlier. -/
def Bef (sc : Nat → Int) (x y : Int) : Prop := keyS sc y < keyS sc x ∨ (keyS sc x = keyS sc y ∧ x < y)
set_option maxRecDepth 100000 in
theorem insD_bef {sc : Nat → Int} {a : Int} : ∀ {xs : List Int}, xs.Pairwise (Bef sc) → (∀ y ∈ xs, y < a) → (insD (keyS sc) xs a).Pairwise (Bef sc)
  | [], _, _ => by simp [insD]
  | x :: xs, h, hlt => by
    rw [List.pairwise_cons] at h
    have hx := hlt x (by simp)
    unfold insD
    by_cases hk : keyS sc a ≤ keyS sc x
    · rw [List.takeWhile_cons_of_pos (by simpa using hk), List.dropWhile_cons_of_pos (by simpa using hk), List.cons_append, List.pairwise_cons]
      have ih := insD_bef (a := a) h.2 (fun y hy => hlt y (by simp [hy]))
      unfold insD at ih
      refine ⟨fun y hy => ?_, ih⟩
      have hm : y ∈ insD (keyS sc) xs a := hy
      rcases insD_mem.1 hm with rfl | hm
      · unfold Bef; omega
      · exact h.1 y hm
    · rw [List.takeWhile_cons_of_neg (by simpa using hk), List.dropWhile_cons_of_neg (by simpa using hk), List.nil_append, List.pairwise_cons]
      refine ⟨fun y hy => ?_, by rw [List.pairwise_cons]; exact h⟩
      rcases List.mem_cons.1 hy with rfl | hy
      · exact .inl (by omega)
      · have := h.1 y hy
        unfold Bef at this ⊢
        omega
set_option maxRecDepth 100000 in
theorem srk_bef (sc : Nat → Int) : ∀ n, (srk sc n).Pairwise (Bef sc)
  | 0 => by simp [srk, iotaL, rowL, sortD]
  | n + 1 => by
    rw [srk_succ]
    exact insD_bef (srk_bef sc n) (fun y hy => by obtain ⟨i, hi, rfl⟩ := srk_mem hy; omega)
set_option maxRecDepth 100000 in
theorem srk_rk (sc : Nat → Int) {n : Nat} (n1 : 1 ≤ n) (n2 : n ≤ 5) : rkOk n (srk sc n) = true := by
  have hp : (srk sc n).Perm (iotaL n) := sortD_perm _ _
  have hl : (srk sc n).length = n := srk_len _ _
  simp only [rkOk, Bool.and_eq_true, decide_eq_true_eq, List.all_eq_true]
  refine ⟨inR_iff.2 (by omega), by omega, fun x hx => ?_, ?_⟩
  · obtain ⟨i, hi, rfl⟩ := srk_mem hx
    exact inR_iff.2 (by omega)
  · rw [hp.nodup_iff, iotaL_up]; exact upL_nodup _ _
set_option maxRecDepth 100000 in
/-- The first winner is the first of the ranking. -/
theorem best_srk (sc : Nat → Int) {n : Nat} (n1 : 1 ≤ n) : (bestL (rowL n sc)).head? = (srk sc n).head? := by
  have hl : (srk sc n).length = n := srk_len _ _
  obtain ⟨i, r, hb, hi, hin, hno⟩ := best_first (xs := rowL n sc) (by rw [rowL_len]; exact n1)
  rw [rowL_len] at hin
  obtain ⟨hin', hmx⟩ := rowL_val hi
  have hmax : ∀ j, j < n → sc j ≤ sc i := fun j hj => by
    rw [← hmx]
    exact maxL_ge (List.mem_of_getElem? (rowL_at (f := sc) hj))
  have hfst : ∀ j, j < i → sc j ≠ sc i := fun j hj e => by
    refine hno j hj ?_
    rw [rowL_at (f := sc) (by omega), hmx, e]
  cases hs : srk sc n with
  | nil => rw [hs] at hl; simp at hl; omega
  | cons x xs =>
    have hx : x ∈ srk sc n := by rw [hs]; simp
    obtain ⟨k, hk, rfl⟩ := srk_mem hx
    have him : (i : Int) ∈ srk sc n := (sortD_mem (f := keyS sc)).2 (List.mem_of_getElem? (rowL_at (f := fun j => (j : Int)) hin))
    rw [hb, List.head?_cons, List.head?_cons]
    by_cases e : i = k
    · rw [e]
    · exfalso
      rw [hs] at him
      rcases List.mem_cons.1 him with h | h
      · omega
      · have hp := srk_bef sc n
        rw [hs, List.pairwise_cons] at hp
        have h2 := hp.1 _ h
        have h3 := hmax k hk
        unfold Bef keyS at h2
        simp only [Int.toNat_natCast] at h2
        have h4 : k < i → sc k ≠ sc i := hfst k
        rcases h2 with h2 | h2
        · omega
        · exact h4 (by omega) h2.1
set_option maxRecDepth 100000 in
/-- One who is beaten by all others never wins by Borda. -/
theorem loser_not {n : Nat} {vs : List Vt} (hS : SmallV n vs) (hn : 2 ≤ n) {c : Nat} (hc : c < n) (hb : ∀ b, b < n → b ≠ c → pairV vs c b < pairV vs b c) : (c : Int) ∉ bestL (rowL n (scoV (borW n) vs)) := by
  intro hm
  have hm2 : scoV (borW n) vs c = maxL (rowL n (scoV (borW n) vs)) := by
    obtain ⟨i, hi, hq, e⟩ := upL_mem.1 hm
    have hic : i = c := by omega
    subst hic
    unfold isMax at hq
    rw [decide_eq_true_eq] at hq
    have := (rowL_val hq).2
    exact this.symm
  have hle : ∀ a, a < n → scoV (borW n) vs a ≤ scoV (borW n) vs c := fun a ha => by
    rw [hm2]
    exact maxL_ge (List.mem_of_getElem? (rowL_at (f := scoV (borW n) vs) ha))
  have hV := allV_nonneg hS
  -- twice the loser's points are fewer than (n-1) times the voters
  have h1 : 2 * scoV (borW n) vs c ≤ sgN (fun b => if b = c then 0 else allV vs - 1) n := by
    rw [bor_pairs hc hS, ← sgN_mul]
    refine sgN_le (fun b hbn => ?_)
    by_cases e : b = c
    · rw [if_pos e, e, pairW_self]; decide
    · rw [if_neg e]
      have h2 := hb b hbn e
      have h3 := pair_tot hc hbn (fun h => e h.symm) hS
      omega
  have h2 : ∀ k, sgN (fun b => if b = c then 0 else allV vs - 1) k = ((if c < k then (k : Int) - 1 else k)) * (allV vs - 1) := by
    intro k
    induction k with
    | zero => simp [sgN]
    | succ k ih =>
      rw [sgN, ih]
      generalize allV vs - 1 = D
      by_cases h : c < k
      · have e1 : ¬ k = c := by omega
        have e2 : c < k + 1 := by omega
        simp only [if_pos h, if_neg e1, if_pos e2]
        rw [Int.natCast_add, Int.natCast_one, Int.sub_mul, Int.sub_mul, Int.add_mul]
        omega
      · by_cases h' : k = c
        · have e2 : c < k + 1 := by omega
          simp only [if_neg h, if_pos h', if_pos e2]
          rw [Int.natCast_add, Int.natCast_one, Int.sub_mul, Int.add_mul]
          omega
        · have e2 : ¬ c < k + 1 := by omega
          simp only [if_neg h, if_neg h', if_neg e2]
          rw [Int.natCast_add, Int.natCast_one, Int.add_mul]
          omega
  rw [h2 n, if_pos hc] at h1
  -- all points together
  have h3 := sco_sum (n := n) (borW n) hS
  have h4 : sgN (scoV (borW n) vs) n ≤ n * scoV (borW n) vs c := by
    rw [← sgN_const]
    exact sgN_le hle
  have h5 : ∀ k, k ≤ n → 2 * sgN (borW n) k = (k : Int) * (2 * (n : Int) - 1 - k) := by
    intro k
    induction k with
    | zero => intro _; simp [sgN]
    | succ k ih =>
      intro hk
      rw [sgN, Int.mul_add, ih (by omega)]
      unfold borW
      have e1 : ((n - 1 - k : Nat) : Int) = (n : Int) - 1 - k := by omega
      rw [e1]
      rw [Int.natCast_add, Int.natCast_one]
      generalize (n : Int) = N
      generalize (k : Int) = K
      have e2 : (K + 1) * (2 * N - 1 - (K + 1)) = K * (2 * N - 1 - K) + 2 * (N - 1 - K) := by
        simp only [Int.add_mul, Int.mul_add, Int.mul_sub, Int.one_mul, Int.mul_one]
        omega
      rw [e2]
  have h6 := h5 n (Nat.le_refl _)
  rw [h3] at h4
  generalize sgN (borW n) n = T at h4 h6
  generalize scoV (borW n) vs c = s at h1 h4
  generalize allV vs = V at h1 h4 hV
  have e7 : 2 * (T * V) = (n : Int) * ((n : Int) - 1) * V := by
    rw [← Int.mul_assoc, h6]
    congr 2
    omega
  -- n (n-1) V <= 2 n s <= n (n-1) (V-1)
  have h8 : (n : Int) * (2 * s) ≤ (n : Int) * (((n : Int) - 1) * (V - 1)) := Int.mul_le_mul_of_nonneg_left h1 (by omega)
  have e8 : (n : Int) * (2 * s) = 2 * ((n : Int) * s) := by rw [← Int.mul_assoc, Int.mul_comm (n : Int) 2, Int.mul_assoc]
  have e9 : (n : Int) * (((n : Int) - 1) * (V - 1)) = (n : Int) * ((n : Int) - 1) * V - (n : Int) * ((n : Int) - 1) := by rw [← Int.mul_assoc, Int.mul_sub, Int.mul_one]
  have h9 : 0 < (n : Int) * ((n : Int) - 1) := Int.mul_pos (by omega) (by omega)
  omega

set_option maxRecDepth 100000 in
theorem top_least {n : Nat} (n1 : 1 ≤ n) (n5 : n ≤ 5) (vs : List Vt) : ∀ K, K ≤ 2 ^ n - 1 → ∃ s : Nat, 1 ≤ s ∧ s ≤ 2 ^ n - 1 ∧ topI n vs K = s ∧ restA n vs (s : Int) = true ∧ ∀ k : Nat, 1 ≤ k → k ≤ K → restA n vs (k : Int) = true → cntTo (s : Int) 6 ≤ cntTo (k : Int) 6
  | 0, _ => by
    have : 2 ^ 1 ≤ 2 ^ n := Nat.pow_le_pow_right (by decide) n1
    exact ⟨2 ^ n - 1, by omega, Nat.le_refl _, rfl, rest_full n5 vs, fun k h1 h2 => by omega⟩
  | K + 1, hK => by
    obtain ⟨s, h1, h2, h3, h4, h5⟩ := top_least n1 n5 vs K (by omega)
    unfold topI
    rw [h3]
    by_cases hc : cntTo ((K + 1 : Nat) : Int) 6 < cntTo (s : Int) 6 ∧ restA n vs ((K + 1 : Nat) : Int) = true
    · rw [if_pos hc]
      refine ⟨K + 1, by omega, hK, rfl, hc.2, fun k k1 k2 k3 => ?_⟩
      by_cases e : k = K + 1
      · subst e; exact Int.le_refl _
      · have := h5 k k1 (by omega) k3
        omega
    · rw [if_neg hc]
      refine ⟨s, h1, h2, rfl, h4, fun k k1 k2 k3 => ?_⟩
      by_cases e : k = K + 1
      · subst e
        by_cases hlt : cntTo ((K + 1 : Nat) : Int) 6 < cntTo (s : Int) 6
        · exact absurd ⟨hlt, k3⟩ hc
        · omega
      · exact h5 k k1 (by omega) k3
set_option maxRecDepth 100000 in
theorem bit_two (w k : Nat) : bitAt ((2 ^ w : Nat) : Int) k = decide (w = k) := by
  unfold bitAt
  rw [Int.toNat_natCast, Nat.testBit_two_pow]
set_option maxRecDepth 100000 in
theorem cnt_two : ∀ w : Nat, w < 5 → cntTo ((2 ^ w : Nat) : Int) 6 = 1 := by decide +kernel
/-- A set that beats the rest, and none of these is smaller. -/
structure TopF (n : Nat) (vs : List Vt) (s : Nat) : Prop where
  lo : 1 ≤ s
  hi : s < 2 ^ n
  eq : topO n vs = memL n (s : Int)
  dom : ∀ i j, i < n → j < n → bitAt (s : Int) i = true → bitAt (s : Int) j = false → bt vs i j = true
  one : ∀ w, w < n → (∀ j, j < n → j ≠ w → bt vs w j = true) → cntTo (s : Int) 6 ≤ 1
set_option maxRecDepth 100000 in
theorem top_f {n : Nat} {vs : List Vt} (h0 : profOk n vs = true) : ∃ s, TopF n vs s := by
  have hsz := prof_size h0
  have n1 : 1 ≤ n := by omega
  have n5 : n ≤ 5 := by omega
  obtain ⟨s, h1, h2, h3, h4, h5⟩ := top_least n1 n5 vs _ (Nat.le_refl _)
  have hp : 1 ≤ 2 ^ n := Nat.pow_pos (by decide)
  refine ⟨s, h1, by omega, ?_, fun i j hi hj bi bj => ?_, fun w hw hb => ?_⟩
  · unfold topO
    rw [if_pos h0, Int.toNat_natCast, topO_impl n1 n5, h3]
  · have h6 := allN_at (allN_at h4 hi) hj
    unfold restC at h6
    rw [bi, bj] at h6
    simpa using h6
  · have hlt : 2 ^ w < 2 ^ n := Nat.pow_lt_pow_right (by decide) hw
    have hpw : 1 ≤ 2 ^ w := Nat.pow_pos (by decide)
    have := h5 (2 ^ w) hpw (by omega) (allN_t fun i hi => allN_t fun j hj => by
      unfold restC
      rw [bit_two, bit_two]
      by_cases e : w = i
      · subst e
        by_cases e2 : w = j
        · subst e2; simp
        · rw [hb j hj (fun h => e2 h.symm)]; simp
      · simp [e])
    rw [cnt_two w (by omega)] at this
    exact this
set_option maxRecDepth 100000 in
theorem TopF.mem {n : Nat} {vs : List Vt} {s : Nat} (h : TopF n vs s) {x : Int} : x ∈ topO n vs ↔ ∃ i : Nat, i < n ∧ bitAt (s : Int) i = true ∧ x = i := by
  rw [h.eq]; exact upL_mem
set_option maxRecDepth 100000 in
theorem TopF.memN {n : Nat} {vs : List Vt} {s : Nat} (h : TopF n vs s) {i : Nat} (hi : i < n) : (i : Int) ∈ topO n vs ↔ bitAt (s : Int) i = true := by
  rw [h.mem]
  constructor
  · rintro ⟨j, _, hb, e⟩
    have : i = j := by omega
    rw [this]; exact hb
  · intro hb
    exact ⟨i, hi, hb, rfl⟩
set_option maxRecDepth 100000 in
theorem TopF.len {n : Nat} {vs : List Vt} {s : Nat} (h : TopF n vs s) (n5 : n ≤ 5) : ((topO n vs).length : Int) = cntTo (s : Int) 6 := by
  have hp := pow_le32 n5
  have := h.hi
  rw [h.eq, memL_len, cnt6 n n5 s (by omega) (by omega)]
set_option maxRecDepth 100000 in
theorem TopF.pos {n : Nat} {vs : List Vt} {s : Nat} (h : TopF n vs s) (n5 : n ≤ 5) : 1 ≤ (topO n vs).length := by
  have hp := pow_le32 n5
  have h1 := h.hi
  have h2 := cnt_pos s (by omega) h.lo
  have := h.len n5
  omega
set_option maxRecDepth 100000 in
theorem TopF.some {n : Nat} {vs : List Vt} {s : Nat} (h : TopF n vs s) (n5 : n ≤ 5) : ∃ b : Nat, b < n ∧ bitAt (s : Int) b = true := by
  obtain ⟨x, hx⟩ := at_of_lt (xs := topO n vs) (k := 0) (h.pos n5)
  obtain ⟨b, hb, h1, _⟩ := h.mem.1 (List.mem_of_getElem? hx)
  exact ⟨b, hb, h1⟩

set_option maxRecDepth 100000 in
theorem those_iff {n : Nat} {p : Nat → Nat → Bool} {i : Nat} : thoseP n p i = true ↔ ∀ j, j < n → j ≠ i → p i j = true := by
  unfold thoseP
  rw [allN_iff]
  constructor
  · intro h j hj hne
    have := h j hj
    simpa [show ¬ i = j from fun e => hne e.symm] using this
  · intro h j hj
    by_cases e : i = j
    · simp [e]
    · simp [e, h j hj (fun h => e h.symm)]
set_option maxRecDepth 100000 in
theorem thoseO_eq {n : Nat} {vs : List Vt} (h0 : profOk n vs = true) (p : Nat → Nat → Bool) : thoseO n vs p = upL n (thoseP n p) := by
  unfold thoseO; rw [if_pos h0, Int.toNat_natCast]
set_option maxRecDepth 100000 in
/-- The one who beats all others. -/
theorem win_cases {n : Nat} {vs : List Vt} (h0 : profOk n vs = true) : (∃ w : Nat, w < n ∧ winnerO n vs = w ∧ ∀ j, j < n → j ≠ w → bt vs w j = true) ∨ (winnerO n vs = -1 ∧ ∀ w, w < n → ¬ ∀ j, j < n → j ≠ w → bt vs w j = true) := by
  unfold winnerO
  rw [thoseO_eq h0]
  by_cases h : ∃ w, w < n ∧ thoseP n (bt vs) w = true
  · obtain ⟨w, hw, ht⟩ := h
    have hb := those_iff.1 ht
    refine .inl ⟨w, hw, ?_, hb⟩
    rw [upL_one hw ht (fun j hj hq => ?_)]
    · rfl
    · by_cases e : j = w
      · exact e
      · have h1 := hb j hj e
        have h2 := those_iff.1 hq w hw (fun h => e h.symm)
        rw [bt_anti vs _ _ h1] at h2
        cases h2
  · refine .inr ⟨?_, fun w hw hb => h ⟨w, hw, those_iff.2 hb⟩⟩
    rw [upL_none (fun j hj => ?_)]
    · rfl
    · cases hq : thoseP n (bt vs) j
      · rfl
      · exact absurd ⟨j, hj, hq⟩ h
set_option maxRecDepth 100000 in
theorem TopF.win {n : Nat} {vs : List Vt} {s : Nat} (h : TopF n vs s) (n5 : n ≤ 5) {w : Nat} (hw : w < n) (hb : ∀ j, j < n → j ≠ w → bt vs w j = true) : topO n vs = [(w : Int)] := by
  have h1 := h.one w hw hb
  have h2 := h.len n5
  have h3 := h.pos n5
  have h4 : (topO n vs).length = 1 := by omega
  obtain ⟨x, hx⟩ := List.length_eq_one_iff.1 h4
  obtain ⟨b, hbn, hbb, e⟩ := h.mem.1 (show x ∈ topO n vs by rw [hx]; simp)
  rw [hx, e]
  by_cases e2 : b = w
  · rw [e2]
  · exfalso
    cases hbw : bitAt (s : Int) w
    · have h5 := h.dom b w hbn hw hbb hbw
      rw [bt_anti vs _ _ (hb b hbn e2)] at h5
      cases h5
    · have := (h.memN hw).2 hbw
      rw [hx, List.mem_singleton] at this
      omega
set_option maxRecDepth 100000 in
theorem TopF.sole {n : Nat} {vs : List Vt} {s : Nat} (h : TopF n vs s) (h1 : (topO n vs).length = 1) : ∃ w : Nat, w < n ∧ ∀ j, j < n → j ≠ w → bt vs w j = true := by
  obtain ⟨x, hx⟩ := List.length_eq_one_iff.1 h1
  obtain ⟨b, hbn, hbb, e⟩ := h.mem.1 (show x ∈ topO n vs by rw [hx]; simp)
  refine ⟨b, hbn, fun j hj hne => h.dom b j hbn hj hbb ?_⟩
  cases hbj : bitAt (s : Int) j
  · rfl
  · have := (h.memN hj).2 hbj
    rw [hx, List.mem_singleton] at this
    omega
set_option maxRecDepth 100000 in
/-- Those whom nobody covers. -/
theorem unc_eq {n : Nat} {vs : List Vt} (h0 : profOk n vs = true) {x : Int} : x ∈ uncO n vs ↔ ∃ i : Nat, i < n ∧ x = i ∧ ∀ j : Nat, j < n → j ≠ i → coversV n vs j i = false := by
  unfold uncO
  rw [thoseO_eq h0, upL_mem]
  constructor
  · rintro ⟨i, hi, hq, e⟩
    refine ⟨i, hi, e, fun j hj hne => ?_⟩
    have := those_iff.1 hq j hj hne
    rw [Int.toNat_natCast] at this
    simpa using this
  · rintro ⟨i, hi, e, h⟩
    refine ⟨i, hi, those_iff.2 (fun j hj hne => ?_), e⟩
    rw [Int.toNat_natCast, h j hj hne]; rfl
set_option maxRecDepth 100000 in
theorem cov_iff {n : Nat} {vs : List Vt} {a b : Nat} : coversV n vs a b = true ↔ bt vs a b = true ∧ ∀ z, z < n → bt vs z a = true → bt vs z b = true := by
  unfold coversV
  rw [Bool.and_eq_true, allN_iff]
  refine and_congr Iff.rfl ⟨fun h z hz h1 => ?_, fun h z hz => ?_⟩
  · have := h z hz
    unfold coversP at this
    unfold bt at h1 ⊢
    rw [h1] at this
    simpa using this
  · unfold coversP
    cases h1 : beatsV vs z a
    · rfl
    · rw [show beatsV vs z b = true from h z hz h1]; rfl
set_option maxRecDepth 100000 in
theorem bt_self (vs : List Vt) (i : Nat) : bt vs i i = false := beatsV_self vs i
set_option maxRecDepth 100000 in
theorem cov_trans {n : Nat} {vs : List Vt} {a b c : Nat} (ha : a < n) (h1 : coversV n vs a b = true) (h2 : coversV n vs b c = true) : coversV n vs a c = true := by
  rw [cov_iff] at *
  exact ⟨h2.2 a ha h1.1, fun z hz h => h2.2 z hz (h1.2 z hz h)⟩
set_option maxRecDepth 100000 in
theorem unc_some {n : Nat} {vs : List Vt} (h0 : profOk n vs = true) : ∃ x, x ∈ uncO n vs := by
  have hsz := prof_size h0
  obtain ⟨a, ha, h⟩ := last_of (R := fun a b => coversV n vs a b = true) (fun a h => by
    rw [cov_iff, bt_self] at h
    exact absurd h.1 (by decide)) n (by omega) (fun a b c ha hb hc h1 h2 => cov_trans ha h1 h2)
  refine ⟨a, (unc_eq h0).2 ⟨a, ha, rfl, fun j hj _ => ?_⟩⟩
  cases hq : coversV n vs j a
  · rfl
  · exact absurd hq (h j hj)
set_option maxRecDepth 100000 in
theorem TopF.unc {n : Nat} {vs : List Vt} {s : Nat} (h : TopF n vs s) (h0 : profOk n vs = true) {x : Int} (hx : x ∈ uncO n vs) : x ∈ topO n vs := by
  have hsz := prof_size h0
  obtain ⟨a, ha, rfl, hu⟩ := (unc_eq h0).1 hx
  rw [h.memN ha]
  cases hba : bitAt (s : Int) a
  · exfalso
    obtain ⟨b, hb, hbb⟩ := h.some (by omega)
    have hne : b ≠ a := fun e => by rw [e, hba] at hbb; cases hbb
    have h1 : coversV n vs b a = true := cov_iff.2 ⟨h.dom b a hb ha hbb hba, fun z hz hzb => by
      cases hbz : bitAt (s : Int) z
      · have := h.dom b z hb hz hbb hbz
        rw [bt_anti vs _ _ this] at hzb
        cases hzb
      · exact h.dom z a hz ha hbz hba⟩
    rw [hu b hb hne] at h1
    cases h1
  · rfl
set_option maxRecDepth 100000 in
theorem TopF.unb {n : Nat} {vs : List Vt} {s : Nat} (h : TopF n vs s) (h0 : profOk n vs = true) {x : Int} (hx : x ∈ unbO n vs) : x ∈ topO n vs := by
  have hsz := prof_size h0
  unfold unbO at hx
  rw [thoseO_eq h0, upL_mem] at hx
  obtain ⟨a, ha, hq, rfl⟩ := hx
  rw [h.memN ha]
  cases hba : bitAt (s : Int) a
  · exfalso
    obtain ⟨b, hb, hbb⟩ := h.some (by omega)
    have hne : b ≠ a := fun e => by rw [e, hba] at hbb; cases hbb
    have h1 := those_iff.1 hq b hb hne
    rw [h.dom b a hb ha hbb hba] at h1
    cases h1
  · rfl

set_option maxRecDepth 100000 in
theorem zeros_own {P : Program} (w : World) (t tn ty e : TypeId) (i : TypeInfo) (z : Value) (size bytes : Nat) (kn : IntKind) (ht : P.underlying t = some (.slice e)) (htn : P.underlying tn = some (.int kn)) (hi : P.info? e = some i) (hz : i.zero = some z)
    (hsize : i.size = size) (hby : i.bytes = bytes) (hzs : z.cells.size = size) (hsz : 0 < size) (n : Nat) (h0 : 0 < n) (hn : n ≤ 2000000) (hb : bytes ≤ 1000) :
    ∃ c w', (Builtin.append_ #[t, tn] ty #[.slice none 0 0, .int .i64 n]).run P w = .ok (.slice (some ⟨w.heap.size, 0, none⟩) n c) w' ∧ w'.ownsRow w.heap.size e size (.slice (some ⟨w.heap.size, 0, none⟩) 0 c) 0 [] ∧ Ext w w' ∧ 0 < c := by
  subst hsize
  subst hby
  have hbb : n * i.bytes ≤ 2000000 * 1000 := Nat.mul_le_mul hn hb
  have hr := Lib.run_append_nil_zeros (P := P) w t tn ty e i z .i64 kn ht htn hi hz n h0 hsz (by omega) (by omega)
  have hge := grownCap_ge w n 0 e
  refine ⟨_, _, hr, ?_, (Ext.refl w).drew.alloc _, by omega⟩
  have hs : (Builtin.zeroCells z.cells n ++ Builtin.zeroCells z.cells (grownCap w n 0 e - n)).size = grownCap w n 0 e * i.size := by
    rw [Array.size_append, size_zeroCells, size_zeroCells, hzs, ← Nat.add_mul]
    congr 1; omega
  exact World.ownsRow_made (base := w.heap.size) w.drew _ _ (Nat.le_refl _) (grownCap_le_maxLen w n 0 e (by unfold maxLen; omega)) hs

set_option maxRecDepth 100000 in
set_option maxHeartbeats 1000000 in
theorem grow_impl (w : World) (n : Nat) (hn : n ≤ 2000000) :
    Calls Try.prog 215 #[.slice none 0 0, .int .i64 n] w fun e w' => ∃ v, e = .returned v ∧ OwnI w' w.heap.size v [] ∧ Ext w w' := by
  obtain ⟨i0, hi, hz0, hz1, hz2⟩ := info_parts info_int
  by_cases h0 : n = 0
  · subst h0
    go_enter Try.func215, Try.ntmps215
    go_wp2
    go_ret
    exact ⟨_, rfl, OwnI.nil _ _, Ext.refl _⟩
  · obtain ⟨c, w', hr, hO, hE, hc⟩ := zeros_own (P := Try.prog) w 29 3 29 3 i0 (.int .i64 0) 1 8 .i64 Try.underlying29 Try.underlying3 hi hz0 hz1 hz2 rfl (by decide) n (by omega) hn (by decide)
    have hc0 : c ≠ 0 := by omega
    have hn0 : (0 : Int) < n := by omega
    have HR := hide hr
    clear hr
    go_enter Try.func215, Try.ntmps215
    go_wp2_with (at_builtin; refine Lib.wpList_append_run _ rfl _ _ _ _ rfl _ _ rfl rfl _ _ HR.out ?_)
    go_ret
    exact ⟨_, rfl, hO, hE⟩

set_option maxRecDepth 100000 in
set_option maxHeartbeats 4000000 in
theorem cat_impl (w : World) (g : Nat) (a1 a2 : Option Addr) (c1 c2 : Nat) (xs ys : List Int) (c0 : w.cell? ⟨g, 0, none⟩ = some (.slice a1 xs.length c1)) (c1' : w.cell? ⟨g, 1, none⟩ = some (.slice a2 ys.length c2))
    (hR1 : RdI w a1 xs) (hR2 : RdI w a2 ys) (hl : xs.length + ys.length ≤ 1000) :
    Calls Try.prog 206 #[.slice (some ⟨g, 0, none⟩) 2 2] w fun e w' => ∃ v, e = .returned v ∧ OwnI w' w.heap.size v (xs ++ ys) ∧ Ext w w' := by
  have h1 := c0
  have h2 := c1'
  have y1 : wrap64 (0 + (xs.length : Int)) = (xs.length : Int) := by rw [IntWalk.wrap64_in _ (by omega)]; omega
  have y2 : wrap64 ((xs.length : Int) + (ys.length : Int)) = (xs.length : Int) + (ys.length : Int) := IntWalk.wrap64_in _ (by omega)
  have z1 : ¬ ((xs.length : Int) < 0) := by omega
  have z2 : ¬ ((xs.length : Int) + (ys.length : Int) < 0) := by omega
  go_enter Try.func206, Try.ntmps206
  go_wp2_with fail
  go_loopw [3, 5, 11] (fun s _ i wr => ((i = .int .i64 0 ∧ s = .int .i64 0) ∨ (i = .int .i64 1 ∧ s = .int .i64 xs.length) ∨ (i = .int .i64 2 ∧ s = .int .i64 ((xs.length : Int) + (ys.length : Int)))) ∧ wr = w) (fun _ _ i _ => 2 - (intOf i).toNat)
  case atStart => exact ⟨.inl ⟨rfl, rfl⟩, rfl⟩
  case round =>
    obtain ⟨⟨rfl, rfl⟩ | ⟨rfl, rfl⟩ | ⟨rfl, rfl⟩, rfl⟩ := hrel
    · go_wp2
      exact ⟨⟨.inr (.inl ⟨rfl, rfl⟩), trivial⟩, by simp [intOf]⟩
    · go_wp2
      exact ⟨⟨.inr (.inr ⟨rfl, rfl⟩), trivial⟩, by simp [intOf]⟩
    · obtain ⟨wo, hwo⟩ : ∃ wo : World, wo = wr := ⟨_, rfl⟩
      subst hwo
      have hg := grow_impl wo (xs.length + ys.length) (by omega)
      rw [Int.natCast_add] at hg
      have HG := hide hg
      clear hg
      go_wp2_with fail
      refine HG.out.mono ?_
      rintro e w1 ⟨v, rfl, hO, hw1⟩
      have h1 := hw1.keep h1
      have h2 := hw1.keep h2
      go_wp2_with fail
      go_loopw [6, 8, 27] (fun v _ i wq => ((i = .int .i64 0 ∧ OwnI wq wo.heap.size v []) ∨ (i = .int .i64 1 ∧ OwnI wq wo.heap.size v xs) ∨ (i = .int .i64 2 ∧ OwnI wq wo.heap.size v (xs ++ ys))) ∧ Ext wo wq ∧ wq.cell? ⟨g, 0, none⟩ = some (.slice a1 xs.length c1) ∧ wq.cell? ⟨g, 1, none⟩ = some (.slice a2 ys.length c2)) (fun _ _ i _ => 2 - (intOf i).toNat)
      case atStart => exact ⟨.inl ⟨rfl, hO⟩, hw1, h1, h2⟩
      case round =>
        clear hO hw1 h1 h2
        obtain ⟨⟨rfl, hO⟩ | ⟨rfl, hO⟩ | ⟨rfl, hO⟩, hw, h1, h2⟩ := hrel
        · go_wp2_with (at_builtin; go_loud (refine wpList_appG wo.heap.size _ rfl _ _ rfl _ [] xs rfl (by exact hO) hw.size a1 xs.length c1 rfl rfl (hR1.ext hw) (by simp; omega) ?_); intro v1 w2 hO1 hg1 _)
          have hE := Ext.grown hw hg1 (ownsRow_block hO)
          exact ⟨⟨.inr (.inl ⟨rfl, hO1⟩), hE, hE.keep c0, hE.keep c1'⟩, by simp [intOf]⟩
        · go_wp2_with (at_builtin; go_loud (refine wpList_appG wo.heap.size _ rfl _ _ rfl _ xs ys rfl (by exact hO) hw.size a2 ys.length c2 rfl rfl (hR2.ext hw) (by omega) ?_); intro v1 w2 hO1 hg1 _)
          have hE := Ext.grown hw hg1 (ownsRow_block hO)
          exact ⟨⟨.inr (.inr ⟨rfl, hO1⟩), hE, hE.keep c0, hE.keep c1'⟩, by simp [intOf]⟩
        · go_wp2
          go_ret
          exact ⟨_, rfl, hO, hw⟩

end Go.Proofs.Ythiojkpoeejkaaa
