/- Maximin scores. The number of voters. A candidate with a majority of first places. Single-peaked rankings: the tests of both packages. -/
import Derived.Test.YtkbbcglghfddjaaCg7
import Derived.Test.YtkbbcglghfddjaaCg8
namespace Go.Proofs.Ytkbbcglghfddjaa
open Go.RowKit

def allV (vs : List Vt) : Int := sumV (fun _ => true) vs
def minTo (vs : List Vt) (V : Int) (i : Nat) : Nat → Int
  | 0 => V
  | m + 1 => if i = m then minTo vs V i m else min (minTo vs V i m) (pairV vs i m)
set_option maxRecDepth 100000 in
theorem min_if (x y : Int) : (if y < x then y else x) = min x y := by split <;> omega
set_option maxRecDepth 100000 in
theorem minTo_bd {sz : Int} {vs : List Vt} (hS : SmallV sz vs) (i : Nat) : ∀ m, 0 ≤ minTo vs (allV vs) i m ∧ minTo vs (allV vs) i m ≤ 24000
  | 0 => by unfold minTo; exact sumV_bd' hS
  | m + 1 => by
    have h1 := minTo_bd hS i m
    have h2 : 0 ≤ pairV vs i m ∧ pairV vs i m ≤ 24000 := sumV_bd' hS
    unfold minTo
    split
    · exact h1
    · omega
def maxiO (sz : Int) (vs : List Vt) : List Int := if profOk sz vs then rowL sz.toNat (fun i => minTo vs (allV vs) i sz.toNat) else []
set_option maxRecDepth 100000 in
theorem maxiO_len (sz : Int) (vs : List Vt) : (maxiO sz vs).length ≤ 5 := by
  unfold maxiO
  cases h0 : profOk sz vs
  · simp
  · obtain ⟨n, rfl, n1, n2⟩ := prof_nat h0
    simp [rowL_len]; omega

set_option maxRecDepth 100000 in
set_option maxHeartbeats 1000000 in
theorem trueF (w : World) (a : Value) : Calls Try.prog 36 #[a] w fun e w' => e = .returned (.bool true) ∧ Ext w w' := by
  go_enter Try.func36, Try.ntmps36
  go_wp2
  go_ret
  exact ⟨rfl, Ext.refl _⟩
set_option maxRecDepth 100000 in
set_option maxHeartbeats 1000000 in
theorem count_impl (w : World) (sz : Int) (a : Option Addr) (c : Nat) (vs : List Vt) (hR : RdV w a vs) :
    Calls Try.prog 7 #[.agg #[.int .i64 sz, .slice a vs.length c]] w fun e w' => e = .returned (.int .i64 (if profOk sz vs then allV vs else -1)) ∧ Ext w w' := by
  have q0 := new0 w (.int .i64 sz) [.slice a vs.length c] 26
  have q1 := new1 w (.int .i64 sz) (.slice a vs.length c) [] 26
  cases h0 : profOk sz vs
  · go_enter Try.func7, Try.ntmps7
    go_wp2_with (go_at_call 17; refine (prof_impl _ _ _ _ _ (hR.ext (by repeat (first | exact Ext.refl _ | assumption | refine Ext.alloc ?_ _ | refine Ext.drew ?_ | refine Ext.trans ?_ (by assumption))))).mono ?_; rintro e w1 ⟨rfl, hw1⟩; have q0 := Ext.keep (w' := w1) (by repeat (first | exact Ext.refl _ | assumption | refine Ext.alloc ?_ _ | refine Ext.drew ?_ | refine Ext.trans ?_ (by assumption))) q0; have q1 := Ext.keep (w' := w1) (by repeat (first | exact Ext.refl _ | assumption | refine Ext.alloc ?_ _ | refine Ext.drew ?_ | refine Ext.trans ?_ (by assumption))) q1)
    go_ret
    exact ⟨ret_int (by simp), (by repeat (first | exact Ext.refl _ | assumption | refine Ext.alloc ?_ _ | refine Ext.drew ?_ | refine Ext.trans ?_ (by assumption)))⟩
  · have HS := hide (prof_small h0)
    go_enter Try.func7, Try.ntmps7
    go_wp2_with (go_at_call 17; refine (prof_impl _ _ _ _ _ (hR.ext (by repeat (first | exact Ext.refl _ | assumption | refine Ext.alloc ?_ _ | refine Ext.drew ?_ | refine Ext.trans ?_ (by assumption))))).mono ?_; rintro e w1 ⟨rfl, hw1⟩; have q0 := Ext.keep (w' := w1) (by repeat (first | exact Ext.refl _ | assumption | refine Ext.alloc ?_ _ | refine Ext.drew ?_ | refine Ext.trans ?_ (by assumption))) q0; have q1 := Ext.keep (w' := w1) (by repeat (first | exact Ext.refl _ | assumption | refine Ext.alloc ?_ _ | refine Ext.drew ?_ | refine Ext.trans ?_ (by assumption))) q1)
    refine (votersV 36 #[] #[] (fun _ => true) _ sz _ _ vs (hR.ext (by repeat (first | exact Ext.refl _ | assumption | refine Ext.alloc ?_ _ | refine Ext.drew ?_ | refine Ext.trans ?_ (by assumption)))) HS.out Try.call36 (fun x a' c' w' _ _ _ _ => trueF _ _)).mono ?_
    rintro e w2 ⟨rfl, hw2⟩
    go_wp2
    go_ret
    exact ⟨ret_int (by simp [allV]), (by repeat (first | exact Ext.refl _ | assumption | refine Ext.alloc ?_ _ | refine Ext.drew ?_ | refine Ext.trans ?_ (by assumption)))⟩

def tabM (vs : List Vt) (n i m o : Nat) : Int := if o < i then minTo vs (allV vs) o n else if o = i then minTo vs (allV vs) i m else allV vs
set_option maxRecDepth 100000 in
theorem tabM_zero (vs : List Vt) (n o : Nat) : tabM vs n 0 0 o = allV vs := by
  unfold tabM; rw [if_neg (by omega)]; split
  · rename_i h; subst h; rfl
  · rfl
set_option maxRecDepth 100000 in
theorem tabM_at (vs : List Vt) (n i m : Nat) : tabM vs n i m i = minTo vs (allV vs) i m := by
  unfold tabM; rw [if_neg (by omega), if_pos rfl]
set_option maxRecDepth 100000 in
theorem tabM_far (vs : List Vt) (n i m m' : Nat) {o : Nat} (h : o ≠ i) : tabM vs n i m o = tabM vs n i m' o := by
  unfold tabM; rw [if_neg h, if_neg h]
set_option maxRecDepth 100000 in
theorem tabM_done (vs : List Vt) (n i o : Nat) : tabM vs n i n o = tabM vs n (i + 1) 0 o := by
  unfold tabM
  by_cases h1 : o < i
  · rw [if_pos h1, if_pos (by omega)]
  · by_cases h2 : o = i
    · subst h2; rw [if_neg h1, if_pos rfl, if_pos (by omega)]
    · rw [if_neg h1, if_neg h2, if_neg (by omega)]; split
      · rename_i h; subst h; rfl
      · rfl

def fstV (vs : List Vt) (a : Nat) : Int := plcV vs a 0
set_option maxRecDepth 100000 in
theorem fstV_bd {n : Int} {vs : List Vt} (hS : SmallV n vs) (a : Nat) : 0 ≤ fstV vs a ∧ fstV vs a ≤ 24000 := sumV_bd' hS

def majO (sz : Int) (vs : List Vt) : Int := if profOk sz vs then findI (fun x => decide (allV vs < 2 * x)) (rowL sz.toNat (fstV vs)) else -1

def pluW (j : Nat) : Int := if j = 0 then 1 else 0
set_option maxRecDepth 100000 in
theorem pluG : GoodW pluW := pluF
set_option maxRecDepth 100000 in
set_option maxHeartbeats 1000000 in
theorem pluOne (w : World) (j : Nat) (hj : j ≤ 5) : Calls Try.prog 94 #[.int .i64 j] w fun e w' => e = .returned (.int .i64 (pluW j)) ∧ Ext w w' := by
  by_cases h0 : j = 0
  · subst h0
    go_enter Try.func94, Try.ntmps94
    go_wp2
    go_ret
    exact ⟨rfl, Ext.refl _⟩
  · go_enter Try.func94, Try.ntmps94
    go_wp2
    go_ret
    exact ⟨ret_int (by unfold pluW; rw [if_neg h0] <;> first | omega | (split <;> omega)), Ext.refl _⟩

set_option maxRecDepth 100000 in
set_option maxHeartbeats 1000000 in
theorem weightsOf_no (w : World) (m : Int) (K : Value) (h : inR m 1 5 = false) :
    Calls Try.prog 93 #[.int .i64 m, K] w fun e w' => e = .returned (.slice none 0 0) ∧ Ext w w' := by
  go_enter Try.func93, Try.ntmps93
  go_wp2_with (go_at_call 50; refine (in_impl _ _ _ _).mono ?_; rintro e w1 ⟨rfl, hw1⟩)
  go_ret
  exact ⟨rfl, (by repeat (first | exact Ext.refl _ | assumption | refine Ext.alloc ?_ _ | refine Ext.drew ?_ | refine Ext.trans ?_ (by assumption)))⟩

set_option maxRecDepth 100000 in
set_option maxHeartbeats 1000000 in
theorem plu_impl (w : World) (m : Int) :
    Calls Try.prog 84 #[.int .i64 m] w fun e w' => ∃ v, e = .returned v ∧ (∀ n : Nat, m = n → inR m 1 5 = true → OwnI w' w.heap.size v (rowL n pluW)) ∧ Ext w w' := by
  cases h : inR m 1 5
  · go_enter Try.func84, Try.ntmps84
    go_wp2_with fail
    refine (weightsOf_no _ _ _ h).mono ?_
    rintro e w1 ⟨rfl, hw1⟩
    go_wp2
    go_ret
    exact ⟨_, rfl, (fun n _ h => by cases h), (by repeat (first | exact Ext.refl _ | assumption | refine Ext.alloc ?_ _ | refine Ext.drew ?_ | refine Ext.trans ?_ (by assumption)))⟩
  · obtain ⟨h1, h2⟩ := inR_iff.1 h
    obtain ⟨n, rfl⟩ : ∃ n : Nat, m = n := ⟨m.toNat, by omega⟩
    go_enter Try.func84, Try.ntmps84
    go_wp2_with fail
    refine (weightsOf_impl 94 #[] pluW _ n (by omega) (by omega) Try.call94 (fun j w' hj _ => pluOne w' j (by omega))).mono ?_
    rintro e w1 ⟨v, rfl, hv, hw1⟩
    go_wp2
    go_ret
    refine ⟨_, rfl, fun k hk _ => ?_, (by repeat (first | exact Ext.refl _ | assumption | refine Ext.alloc ?_ _ | refine Ext.drew ?_ | refine Ext.trans ?_ (by assumption)))⟩
    have : n = k := by omega
    subst this
    exact hv

set_option maxRecDepth 100000 in
set_option maxHeartbeats 1000000 in
theorem sco_no (w : World) (sz : Int) (a : Option Addr) (c : Nat) (vs : List Vt) (u : Value) (hR : RdV w a vs) (h0 : profOk sz vs = false) :
    Calls Try.prog 83 #[.agg #[.int .i64 sz, .slice a vs.length c], u] w fun e w' => e = .returned (.slice none 0 0) ∧ Ext w w' := by
  have q0 := new0 w (.int .i64 sz) [.slice a vs.length c] 26
  have q1 := new1 w (.int .i64 sz) (.slice a vs.length c) [] 26
  go_enter Try.func83, Try.ntmps83
  go_wp2_with (go_at_call 17; refine (prof_impl _ _ _ _ _ (hR.ext (by repeat (first | exact Ext.refl _ | assumption | refine Ext.alloc ?_ _ | refine Ext.drew ?_ | refine Ext.trans ?_ (by assumption))))).mono ?_; rintro e w1 ⟨rfl, hw1⟩; have q0 := Ext.keep (w' := w1) (by repeat (first | exact Ext.refl _ | assumption | refine Ext.alloc ?_ _ | refine Ext.drew ?_ | refine Ext.trans ?_ (by assumption))) q0; have q1 := Ext.keep (w' := w1) (by repeat (first | exact Ext.refl _ | assumption | refine Ext.alloc ?_ _ | refine Ext.drew ?_ | refine Ext.trans ?_ (by assumption))) q1)
  go_ret
  exact ⟨rfl, (by repeat (first | exact Ext.refl _ | assumption | refine Ext.alloc ?_ _ | refine Ext.drew ?_ | refine Ext.trans ?_ (by assumption)))⟩

def fstO (sz : Int) (vs : List Vt) : List Int := if profOk sz vs then rowL sz.toNat (fstV vs) else []
set_option maxRecDepth 100000 in
set_option maxHeartbeats 1000000 in
theorem fst_impl (w : World) (sz : Int) (a : Option Addr) (c : Nat) (vs : List Vt) (hR : RdV w a vs) :
    Calls Try.prog 58 #[.agg #[.int .i64 sz, .slice a vs.length c]] w fun e w' => ∃ v, e = .returned v ∧ WrI w' w.heap.size v (fstO sz vs) ∧ Ext w w' := by
  have q0 := new0 w (.int .i64 sz) [.slice a vs.length c] 26
  have q1 := new1 w (.int .i64 sz) (.slice a vs.length c) [] 26
  cases h0 : profOk sz vs
  · go_enter Try.func58, Try.ntmps58
    go_wp2
    refine wp_region_X (by kernel_rfl) (by kernel_rfl) ?_
    repeat' (refine wpX_stepQ (fun K hK => ?_)
             go_simp
             try (rw [if_neg (by intro h; simp [undef] at h)])
             try split
             all_goals
               first
               | (refine hK _ ?_
                  clear hK K)
               | (apply Exists.intro
                  refine ⟨fun wq hwq => ?_, hK _ ?_⟩
                  · have hcq := hwq.cellS
                    go_simp
                    first
                    | exact ⟨Ext.refl _, rfl⟩
                  clear hK K))
    refine wpX_stepS rfl (by kernel_rfl) (fun K hK wq hwq => ?_)
    go_simp
    refine (plu_impl _ _).mono ?_
    rintro e w1 ⟨v, rfl, _, hw1⟩
    refine ⟨hw1, hK _ _ ?_⟩
    clear hK K
    repeat' (refine wpX_stepQ (fun K hK => ?_)
             go_simp
             try (rw [if_neg (by intro h; simp [undef] at h)])
             try split
             all_goals
               first
               | (refine hK _ ?_
                  clear hK K)
               | (apply Exists.intro
                  refine ⟨fun wq hwq => ?_, hK _ ?_⟩
                  · have hcq := hwq.cellS
                    go_simp
                    first
                    | exact ⟨Ext.refl _, rfl⟩
                    | exact ⟨Ext.refl _, sco_no _ _ _ _ _ _ (hR.ext (by repeat (first | exact Ext.refl _ | assumption | refine Ext.alloc ?_ _ | refine Ext.drew ?_ | refine Ext.trans ?_ (by assumption)))) h0⟩
                  clear hK K))
    refine wpX_nil (fun wz hwz => ?_)
    go_wp2
    go_ret
    exact ⟨_, rfl, by simp [fstO, h0]; exact WrI.nil _ _ _ _, (by repeat (first | exact Ext.refl _ | assumption | refine Ext.alloc ?_ _ | refine Ext.drew ?_ | refine Ext.trans ?_ (by assumption)))⟩
  · obtain ⟨n, rfl, n1, n2⟩ := prof_nat h0
    have HS := hide (prof_small h0)
    have hin : inR (n : Int) 1 5 = true := inR_iff.2 (by omega)
    go_enter Try.func58, Try.ntmps58
    go_wp2
    refine wp_region_X (by kernel_rfl) (by kernel_rfl) ?_
    repeat' (refine wpX_stepQ (fun K hK => ?_)
             go_simp
             try (rw [if_neg (by intro h; simp [undef] at h)])
             try split
             all_goals
               first
               | (refine hK _ ?_
                  clear hK K)
               | (apply Exists.intro
                  refine ⟨fun wq hwq => ?_, hK _ ?_⟩
                  · have hcq := hwq.cellS
                    go_simp
                    first
                    | exact ⟨Ext.refl _, rfl⟩
                  clear hK K))
    refine wpX_stepS rfl (by kernel_rfl) (fun K hK wq hwq => ?_)
    go_simp
    refine (plu_impl _ _).mono ?_
    rintro e w1 ⟨v, rfl, hv, hw1⟩
    refine ⟨hw1, hK _ _ ?_⟩
    clear hK K
    have hv := hv n rfl hin
    obtain ⟨av, cv, rfl, _, _, hRv, _⟩ := hv.val
    rw [rowL_len]
    refine wpX_stepS rfl (by kernel_rfl) (fun K hK wq hwq => ?_)
    go_simp
    refine (sco_impl _ n a av c cv vs pluW n rfl (hR.ext (by repeat (first | exact Ext.refl _ | assumption | refine Ext.alloc ?_ _ | refine Ext.drew ?_ | refine Ext.trans ?_ (by assumption)))) (hRv.ext (by repeat (first | exact Ext.refl _ | assumption | refine Ext.alloc ?_ _ | refine Ext.drew ?_ | refine Ext.trans ?_ (by assumption)))) pluG h0).mono ?_
    rintro e w2 ⟨v2, rfl, hv2, hw2⟩
    refine ⟨hw2, hK _ _ ?_⟩
    clear hK K
    repeat' (refine wpX_stepQ (fun K hK => ?_)
             go_simp
             try (rw [if_neg (by intro h; simp [undef] at h)])
             try split
             all_goals
               first
               | (refine hK _ ?_
                  clear hK K)
               | (apply Exists.intro
                  refine ⟨fun wq hwq => ?_, hK _ ?_⟩
                  · have hcq := hwq.cellS
                    go_simp
                    first
                    | exact ⟨Ext.refl _, rfl⟩
                  clear hK K))
    refine wpX_nil (fun wz hwz => ?_)
    go_wp2
    go_ret
    refine ⟨_, rfl, ?_, (by repeat (first | exact Ext.refl _ | assumption | refine Ext.alloc ?_ _ | refine Ext.drew ?_ | refine Ext.trans ?_ (by assumption)))⟩
    have he : fstO n vs = rowL n (scoV pluW vs) := by
      simp only [fstO, h0, if_true, Int.toNat_natCast]
      exact rowL_congr (fun j hj => (plc_sco hj HS.out).symm)
    rw [he]
    exact (hv2.ext hwz).base (Ext.size (by repeat (first | exact Ext.refl _ | assumption | refine Ext.alloc ?_ _ | refine Ext.drew ?_ | refine Ext.trans ?_ (by assumption))))

def pkGo (ax : List Int) : List Int → Int → Int → Bool
  | [], _, _ => true
  | x :: xs, lo, hi => if placeI ax x = lo - 1 then pkGo ax xs (placeI ax x) hi else if placeI ax x = hi + 1 then pkGo ax xs lo (placeI ax x) else false
def pkO (ax : List Int) : List Int → Bool
  | [] => true
  | x :: xs => pkGo ax xs (placeI ax x) (placeI ax x)
def imGo (ax : List Int) : List Int → Int → Int → Int → Bool
  | [], _, _, _ => true
  | x :: xs, i, lo, hi => if i < max hi (placeI ax x) - min lo (placeI ax x) then false else imGo ax xs (i + 1) (min lo (placeI ax x)) (max hi (placeI ax x))

set_option maxRecDepth 100000 in
theorem pk_eq (ax : List Int) : ∀ (t : List Int) (lo hi i : Int), lo ≤ hi → hi - lo = i - 1 → t.Pairwise (fun a b => placeI ax a ≠ placeI ax b) → (∀ x ∈ t, placeI ax x < lo ∨ hi < placeI ax x) → imGo ax t i lo hi = pkGo ax t lo hi
  | [], _, _, _, _, _, _, _ => rfl
  | x :: t, lo, hi, i, h1, h2, h3, h4 => by
    have hp := List.pairwise_cons.1 h3
    have hx := h4 x (by simp)
    have hr : ∀ y ∈ t, placeI ax y < lo ∨ hi < placeI ax y := fun y hy => h4 y (by simp [hy])
    have hd : ∀ y ∈ t, placeI ax y ≠ placeI ax x := fun y hy e => hp.1 y hy e.symm
    unfold imGo pkGo
    generalize placeI ax x = k at *
    rcases hx with hx | hx
    · rw [show max hi k = hi by omega, show min lo k = k by omega]
      by_cases e : k = lo - 1
      · rw [if_neg (by omega), if_pos e]
        exact pk_eq ax t k hi (i + 1) (by omega) (by omega) hp.2 (fun y hy => by have := hr y hy; have := hd y hy; omega)
      · rw [if_pos (by omega), if_neg e, if_neg (by omega)]
    · rw [show max hi k = k by omega, show min lo k = lo by omega]
      by_cases e : k = hi + 1
      · rw [if_neg (by omega), if_neg (by omega), if_pos e]
        exact pk_eq ax t lo k (i + 1) (by omega) (by omega) hp.2 (fun y hy => by have := hr y hy; have := hd y hy; omega)
      · rw [if_pos (by omega), if_neg (by omega), if_neg e]

set_option maxRecDepth 100000 in
theorem pk_law {n : Nat} {ax xs : List Int} (ha : rkOk n ax = true) (hx : rkOk n xs = true) : imGo ax xs 0 n (-1) = pkO ax xs := by
  have hpl : ∀ x ∈ xs, 0 ≤ placeI ax x ∧ placeI ax x < n ∧ ∃ k : Nat, placeI ax x = k ∧ ax[k]? = some x := fun x h => by
    obtain ⟨b0, b1⟩ := rk_mem hx h
    obtain ⟨a, rfl⟩ := Int.eq_ofNat_of_zero_le b0
    obtain ⟨k, hk, e, hat, _⟩ := place_at ha (a := a) (by omega)
    exact ⟨by omega, by omega, k, e, hat⟩
  have hpw : xs.Pairwise (fun a b => placeI ax a ≠ placeI ax b) := by
    refine List.Pairwise.imp_of_mem ?_ (rk_nodup hx)
    intro a b h1 h2 hne e
    obtain ⟨_, _, k, e1, g1⟩ := hpl a h1
    obtain ⟨_, _, k2, e2, g2⟩ := hpl b h2
    have : k = k2 := by omega
    subst this
    rw [g1] at g2
    exact hne (Option.some.inj g2)
  cases xs with
  | nil => rfl
  | cons x t =>
    obtain ⟨b0, b1, _⟩ := hpl x (by simp)
    have hp := List.pairwise_cons.1 hpw
    have hd : ∀ y ∈ t, placeI ax y ≠ placeI ax x := fun y hy e => hp.1 y hy e.symm
    show imGo ax (x :: t) 0 n (-1) = pkGo ax t (placeI ax x) (placeI ax x)
    unfold imGo
    generalize placeI ax x = k at *
    rw [show max (-1) k = k by omega, show min (n : Int) k = k by omega, if_neg (by omega)]
    exact pk_eq ax t k k (0 + 1) (by omega) (by omega) hp.2 (fun y hy => by have := hd y hy; omega)

set_option maxRecDepth 100000 in
set_option maxHeartbeats 2000000 in
theorem pk_spec (w : World) (a a2 : Option Addr) (c c2 : Nat) (x : Int) (t ax : List Int) (hR : RdI w a (x :: t)) (hc : (x :: t).length ≤ c) (hl : t.length ≤ 5) (hR2 : RdI w a2 ax) (hl2 : ax.length ≤ 5) :
    Calls Try.prog 90 #[.slice a (x :: t).length c, .slice a2 ax.length c2] w fun e w' => e = .returned (.bool (pkO ax (x :: t))) ∧ Ext w w' := by
  obtain ⟨L, hL⟩ : ∃ L : Nat, L = t.length + 1 := ⟨_, rfl⟩
  have hbd : ∀ y, -1 ≤ placeI ax y ∧ placeI ax y ≤ 5 := fun y => by have := placeI_lt ax y; omega
  have HB := hide hbd
  obtain ⟨b, off, rfl, d0⟩ := hR.at_ (k := 0) (x := x) rfl
  rw [Nat.add_zero] at d0
  rw [List.length_cons, ← hL] at hc ⊢
  have b0 := hbd x
  have HP : Hid (pkO ax (x :: t) = pkGo ax t (placeI ax x) (placeI ax x)) := hide rfl
  have HL := hide hL
  have hL1 : 1 ≤ L := by omega
  have hL6 : L ≤ 6 := by omega
  clear hbd hL
  by_cases hc1 : c = 1
  · have ht : L = 1 := by omega
    have hpk : pkO ax (x :: t) = true := by
      have : t = [] := List.length_eq_zero_iff.1 (by have := HL.out; omega)
      rw [this]; rfl
    have HK := hide hpk
    clear HP hpk HL hL1 hL6 hc
    subst ht
    go_enter Try.func90, Try.ntmps90
    go_wp2_with (go_at_call 98; refine (place_spec _ _ _ _ _ (hR2.ext (by repeat (first | exact Ext.refl _ | assumption | refine Ext.alloc ?_ _ | refine Ext.drew ?_ | refine Ext.trans ?_ (by assumption)))) (by omega)).mono ?_; rintro e w1 ⟨rfl, hw1⟩)
    go_loopw [19] (fun i wr => i = .int .i64 0 ∧ Ext w1 wr) (fun _ _ => 0)
    case atStart => exact ⟨rfl, Ext.refl _⟩
    case round =>
      obtain ⟨rfl, hwr⟩ := hrel
      go_wp2
      go_ret
      exact ⟨ret_bool HK.out.symm, (by repeat (first | exact Ext.refl _ | assumption | refine Ext.alloc ?_ _ | refine Ext.drew ?_ | refine Ext.trans ?_ (by assumption)))⟩
  go_enter Try.func90, Try.ntmps90
  go_wp2_with (go_at_call 98; refine (place_spec _ _ _ _ _ (hR2.ext (by repeat (first | exact Ext.refl _ | assumption | refine Ext.alloc ?_ _ | refine Ext.drew ?_ | refine Ext.trans ?_ (by assumption)))) (by omega)).mono ?_; rintro e w1 ⟨rfl, hw1⟩)
  obtain ⟨wb, hwb⟩ : ∃ wb : World, wb = w1 := ⟨_, rfl⟩
  subst hwb
  generalize placeI ax x = p0 at b0 HP ⊢
  go_loopw [5, 6, 19] (fun lo hi i wr => ∃ (j : Nat) (l h : Int), j ≤ L - 1 ∧ i = .int .i64 j ∧ lo = .int .i64 l ∧ hi = .int .i64 h ∧ -10 ≤ l ∧ l ≤ 10 ∧ -10 ≤ h ∧ h ≤ 10 ∧ Hid (pkO ax (x :: t) = pkGo ax (t.drop j) l h) ∧ Ext wb wr) (fun _ _ i _ => L - 1 - (intOf i).toNat)
  case atStart => exact ⟨0, p0, p0, Nat.zero_le _, rfl, rfl, rfl, by omega, by omega, by omega, by omega, HP, Ext.refl _⟩
  case round =>
    obtain ⟨j, l, h, hj, rfl, rfl, rfl, l0, l1, h0, h1, HG, hwr⟩ := hrel
    by_cases hjt : j < L - 1
    · obtain ⟨y, hy⟩ := at_of_lt (xs := t) (k := j) (by have := HL.out; omega)
      obtain ⟨b', off', e, d1⟩ := ((hR.ext hw1).ext hwr).at_ (k := j + 1) (x := y) (by simpa using hy)
      injection e with e
      injection e with e1 e2
      subst e1 e2
      rw [show off + (j + 1) = off + 1 + j by omega] at d1
      obtain ⟨k0, k1⟩ := HB.out y
      have hdr : t.drop j = y :: t.drop (j + 1) := (List.drop_eq_getElem?_toList_append (l := t) (i := j)).trans (by rw [hy]; rfl)
      have hgo : pkO ax (x :: t) = if placeI ax y = l - 1 then pkGo ax (t.drop (j + 1)) (placeI ax y) h else if placeI ax y = h + 1 then pkGo ax (t.drop (j + 1)) l (placeI ax y) else false := by
        rw [HG.out, hdr]; rfl
      have HG2 := hide hgo
      have HC : Hid (∀ w', Ext wr w' → Calls Try.prog 98 #[.slice a2 ax.length c2, .int .i64 y] w' fun e w'' => e = .returned (.int .i64 (placeI ax y)) ∧ Ext w' w'') := fun w' hw' => place_spec w' a2 c2 ax y (hR2.ext (by repeat (first | assumption | refine Ext.trans ?_ (by assumption)))) (by omega)
      clear hy hdr hgo HG
      generalize placeI ax y = k at k0 k1 HG2 HC
      by_cases e1 : k = l - 1
      · have HG3 := hide (HG2.out.trans (if_pos e1))
        clear HG2
        subst e1
        go_wp2_with (go_at_call 98; refine (HC.out _ (by repeat (first | exact Ext.refl _ | assumption | refine Ext.alloc ?_ _ | refine Ext.drew ?_ | refine Ext.trans ?_ (by assumption)))).mono ?_; rintro e w1 ⟨rfl, hw1⟩)
        exact ⟨⟨j + 1, l - 1, h, by omega, by go_num, rfl, rfl, by omega, by omega, by omega, by omega, HG3, (by repeat (first | exact Ext.refl _ | assumption | refine Ext.alloc ?_ _ | refine Ext.drew ?_ | refine Ext.trans ?_ (by assumption)))⟩, by simp [intOf]; omega⟩
      · by_cases e2 : k = h + 1
        · have HG3 := hide ((HG2.out.trans (if_neg e1)).trans (if_pos e2))
          clear HG2
          subst e2
          go_wp2_with (go_at_call 98; refine (HC.out _ (by repeat (first | exact Ext.refl _ | assumption | refine Ext.alloc ?_ _ | refine Ext.drew ?_ | refine Ext.trans ?_ (by assumption)))).mono ?_; rintro e w1 ⟨rfl, hw1⟩)
          exact ⟨⟨j + 1, l, h + 1, by omega, by go_num, rfl, rfl, by omega, by omega, by omega, by omega, HG3, (by repeat (first | exact Ext.refl _ | assumption | refine Ext.alloc ?_ _ | refine Ext.drew ?_ | refine Ext.trans ?_ (by assumption)))⟩, by simp [intOf]; omega⟩
        · have HG3 := hide ((HG2.out.trans (if_neg e1)).trans (if_neg e2))
          go_wp2_with (go_at_call 98; refine (HC.out _ (by repeat (first | exact Ext.refl _ | assumption | refine Ext.alloc ?_ _ | refine Ext.drew ?_ | refine Ext.trans ?_ (by assumption)))).mono ?_; rintro e w1 ⟨rfl, hw1⟩)
          go_ret
          exact ⟨ret_bool HG3.out.symm, (by repeat (first | exact Ext.refl _ | assumption | refine Ext.alloc ?_ _ | refine Ext.drew ?_ | refine Ext.trans ?_ (by assumption)))⟩
    · go_wp2
      go_ret
      refine ⟨ret_bool ?_, (by repeat (first | exact Ext.refl _ | assumption | refine Ext.alloc ?_ _ | refine Ext.drew ?_ | refine Ext.trans ?_ (by assumption)))⟩
      have : t.drop j = [] := List.drop_eq_nil_of_le (by have := HL.out; omega)
      rw [HG.out, this]; rfl

set_option maxRecDepth 100000 in
set_option maxHeartbeats 2000000 in
theorem pk_impl (w : World) (a a2 : Option Addr) (c c2 n : Nat) (xs ax : List Int) (hR : RdI w a xs) (hc : xs.length ≤ c) (hR2 : RdI w a2 ax) (hc2 : ax.length ≤ c2) (hx : rkOk n xs = true) (ha : rkOk n ax = true) :
    Calls Try.prog 29 #[.slice a xs.length c, .slice a2 ax.length c2] w fun e w' => e = .returned (.bool (pkO ax xs)) ∧ Ext w w' := by
  obtain ⟨lx, lx5⟩ := rk_len hx
  obtain ⟨la, la5⟩ := rk_len ha
  have hx2 : rkOk (xs.length : Int) xs = true := by rw [lx]; exact hx
  have ha2 : rkOk (ax.length : Int) ax = true := by rw [la]; exact ha
  have hbd : ∀ y, -1 ≤ placeI ax y ∧ placeI ax y ≤ 5 := fun y => by have := placeI_lt ax y; omega
  have HB := hide hbd
  have HP := hide (pk_law ha hx)
  have lxn : xs.length = n := by omega
  have lan : ax.length = n := by omega
  have HLX := hide lxn
  have HLA := hide lan
  have n5 : n ≤ 5 := by omega
  have HI : Hid (∀ w', Ext w w' → Calls Try.prog 54 #[.slice a n c] w' fun e w'' => e = .returned (.bool true) ∧ Ext w' w'') := fun w' hw' => by
    have h := rank_impl w' xs.length a c xs (hR.ext hw') hc
    rw [hx2, lxn] at h
    have HH := hide h
    go_enter Try.func54, Try.ntmps54
    go_wp2_with (go_at_call 42; refine (HH.out).mono ?_; rintro e w1 ⟨rfl, hw1⟩)
    go_ret
    exact ⟨rfl, hw1⟩
  have HI2 : Hid (∀ w', Ext w w' → Calls Try.prog 54 #[.slice a2 n c2] w' fun e w'' => e = .returned (.bool true) ∧ Ext w' w'') := fun w' hw' => by
    have h := rank_impl w' ax.length a2 c2 ax (hR2.ext hw') hc2
    rw [ha2, lan] at h
    have HH := hide h
    go_enter Try.func54, Try.ntmps54
    go_wp2_with (go_at_call 42; refine (HH.out).mono ?_; rintro e w1 ⟨rfl, hw1⟩)
    go_ret
    exact ⟨rfl, hw1⟩
  rw [lxn, lan]
  clear lx lx5 la la5 hx2 ha2 hbd lxn lan hc hc2 hx ha
  go_enter Try.func29, Try.ntmps29
  go_wp2_with fail
  refine (HI.out _ (by repeat (first | exact Ext.refl _ | assumption | refine Ext.alloc ?_ _ | refine Ext.drew ?_ | refine Ext.trans ?_ (by assumption)))).mono ?_
  rintro e w1 ⟨rfl, hw1⟩
  go_wp2_with fail
  refine (HI2.out _ (by repeat (first | exact Ext.refl _ | assumption | refine Ext.alloc ?_ _ | refine Ext.drew ?_ | refine Ext.trans ?_ (by assumption)))).mono ?_
  rintro e w2 ⟨rfl, hw2⟩
  go_wp2_with fail
  obtain ⟨wb, hwb⟩ : ∃ wb : World, wb = w2 := ⟨_, rfl⟩
  subst hwb
  have hw : Ext w wb := (by repeat (first | exact Ext.refl _ | assumption | refine Ext.alloc ?_ _ | refine Ext.drew ?_ | refine Ext.trans ?_ (by assumption)))
  go_loopw [5, 6, 29] (fun lo hi i wr => ∃ (j : Nat) (l h : Int), j ≤ n ∧ i = .int .i64 j ∧ lo = .int .i64 l ∧ hi = .int .i64 h ∧ -10 ≤ l ∧ l ≤ 10 ∧ -10 ≤ h ∧ h ≤ 10 ∧ Hid (pkO ax xs = imGo ax (xs.drop j) j l h) ∧ Ext wb wr) (fun _ _ i _ => n - (intOf i).toNat)
  case atStart => exact ⟨0, n, -1, Nat.zero_le _, rfl, rfl, rfl, by omega, by omega, by omega, by omega, by rw [← HP.out]; rfl, Ext.refl _⟩
  case round =>
    obtain ⟨j, l, h, hj, rfl, rfl, rfl, l0, l1, h0, h1, HG, hwr⟩ := hrel
    have hwx : Ext w wr := hw.trans hwr
    by_cases hjt : j < n
    · obtain ⟨y, hy⟩ := at_of_lt (xs := xs) (k := j) (by rw [HLX.out]; exact hjt)
      obtain ⟨b, off, rfl, d1⟩ := (hR.ext hwx).at_ hy
      obtain ⟨k0, k1⟩ := HB.out y
      have hdr : xs.drop j = y :: xs.drop (j + 1) := (List.drop_eq_getElem?_toList_append (l := xs) (i := j)).trans (by rw [hy]; rfl)
      have hgo : pkO ax xs = if (j : Int) < max h (placeI ax y) - min l (placeI ax y) then false else imGo ax (xs.drop (j + 1)) ((j : Int) + 1) (min l (placeI ax y)) (max h (placeI ax y)) := by
        rw [HG.out, hdr]; rfl
      have HC : Hid (∀ w', Ext wr w' → Calls Try.prog 62 #[.slice a2 n c2, .int .i64 y] w' fun e w'' => e = .returned (.int .i64 (placeI ax y)) ∧ Ext w' w'') := fun w' hw' => by
        have h := place_impl w' a2 c2 ax y (hR2.ext (hwx.trans hw')) (by have := HLA.out; omega)
        rw [HLA.out] at h
        exact h
      have hj1 : ((j + 1 : Nat) : Int) = (j : Int) + 1 := by omega
      have HJ := hide hj1
      clear hy hdr HG hj1
      generalize placeI ax y = k at k0 k1 hgo HC
      rcases (show (k < l ∧ min l k = k) ∨ (l ≤ k ∧ min l k = l) by omega) with ⟨hkl, hm⟩ | ⟨hkl, hm⟩ <;> rcases (show (h < k ∧ max h k = k) ∨ (k ≤ h ∧ max h k = h) by omega) with ⟨hkh, hM⟩ | ⟨hkh, hM⟩ <;> rw [hm, hM] at hgo <;> clear hm hM <;> split at hgo
      all_goals have HG2 := hide hgo
      all_goals clear hgo
      all_goals go_wp2_with (go_at_call 62; refine (HC.out _ (by repeat (first | exact Ext.refl _ | assumption | refine Ext.alloc ?_ _ | refine Ext.drew ?_ | refine Ext.trans ?_ (by assumption)))).mono ?_; rintro e w1 ⟨rfl, hw1⟩)
      all_goals first
        | exact ⟨⟨j + 1, _, _, by omega, by go_num, rfl, rfl, by omega, by omega, by omega, by omega, HG2.out.trans (by rw [HJ.out]), (by repeat (first | exact Ext.refl _ | assumption | refine Ext.alloc ?_ _ | refine Ext.drew ?_ | refine Ext.trans ?_ (by assumption)))⟩, by simp [intOf]; omega⟩
        | (go_ret; exact ⟨ret_bool HG2.out.symm, (by repeat (first | exact Ext.refl _ | assumption | refine Ext.alloc ?_ _ | refine Ext.drew ?_ | refine Ext.trans ?_ (by assumption)))⟩)
        | (go_ret; exact ⟨ret_bool HG2.out, (by repeat (first | exact Ext.refl _ | assumption | refine Ext.alloc ?_ _ | refine Ext.drew ?_ | refine Ext.trans ?_ (by assumption)))⟩)
    · go_wp2
      go_ret
      refine ⟨ret_bool ?_, hwx⟩
      have : xs.drop j = [] := List.drop_eq_nil_of_le (by have := HLX.out; omega)
      rw [HG.out, this]; rfl

end Go.Proofs.Ytkbbcglghfddjaa
