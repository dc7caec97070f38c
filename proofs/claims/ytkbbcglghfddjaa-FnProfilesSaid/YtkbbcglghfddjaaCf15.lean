/- Maximin scores. Weights of places, and the scores of a profile by them (the program's side). The number of voters. -/
import Derived.Test.YtkbbcglghfddjaaCf7
import Derived.Test.YtkbbcglghfddjaaCf9
import Derived.Test.YtkbbcglghfddjaaCf5
import Derived.Test.YtkbbcglghfddjaaCf8
namespace Go.Proofs.Ytkbbcglghfddjaa
open Go.RowKit

def allV (vs : List Vt) : Int := sumV (fun _ => true) vs
def minTo (vs : List Vt) (V : Int) (i : Nat) : Nat → Int
  | 0 => V
  | m + 1 => if i = m then minTo vs V i m else min (minTo vs V i m) (pairV vs i m)
set_option maxRecDepth 100000 in
theorem min_if (x y : Int) : (if y < x then y else x) = min x y := by split <;> omega
set_option maxRecDepth 100000 in
theorem minTo_bd {sz : Int} {vs : List Vt} (hS : SmallV sz vs) (i : Nat) : ∀ m, 0 ≤ minTo vs (allV vs) i m ∧ minTo vs (allV vs) i m ≤ 24000
  | 0 => by unfold minTo; exact sumV_bd' hS
  | m + 1 => by
    have h1 := minTo_bd hS i m
    have h2 : 0 ≤ pairV vs i m ∧ pairV vs i m ≤ 24000 := sumV_bd' hS
    unfold minTo
    split
    · exact h1
    · omega
def maxiO (sz : Int) (vs : List Vt) : List Int := if profOk sz vs then rowL sz.toNat (fun i => minTo vs (allV vs) i sz.toNat) else []
set_option maxRecDepth 100000 in
theorem maxiO_len (sz : Int) (vs : List Vt) : (maxiO sz vs).length ≤ 5 := by
  unfold maxiO
  cases h0 : profOk sz vs
  · simp
  · obtain ⟨n, rfl, n1, n2⟩ := prof_nat h0
    simp [rowL_len]; omega

set_option maxRecDepth 100000 in
set_option maxHeartbeats 1000000 in
theorem trueF (w : World) (a : Value) : Calls Try.prog 36 #[a] w fun e w' => e = .returned (.bool true) ∧ Ext w w' := by
  go_enter Try.func36, Try.ntmps36
  go_wp2
  go_ret
  exact ⟨rfl, Ext.refl _⟩
set_option maxRecDepth 100000 in
set_option maxHeartbeats 1000000 in
theorem count_impl (w : World) (sz : Int) (a : Option Addr) (c : Nat) (vs : List Vt) (hR : RdV w a vs) :
    Calls Try.prog 7 #[.agg #[.int .i64 sz, .slice a vs.length c]] w fun e w' => e = .returned (.int .i64 (if profOk sz vs then allV vs else -1)) ∧ Ext w w' := by
  have q0 := new0 w (.int .i64 sz) [.slice a vs.length c] 26
  have q1 := new1 w (.int .i64 sz) (.slice a vs.length c) [] 26
  cases h0 : profOk sz vs
  · go_enter Try.func7, Try.ntmps7
    go_wp2_with (go_at_call 17; refine (prof_impl _ _ _ _ _ (hR.ext (by repeat (first | exact Ext.refl _ | assumption | refine Ext.alloc ?_ _ | refine Ext.drew ?_ | refine Ext.trans ?_ (by assumption))))).mono ?_; rintro e w1 ⟨rfl, hw1⟩; have q0 := Ext.keep (w' := w1) (by repeat (first | exact Ext.refl _ | assumption | refine Ext.alloc ?_ _ | refine Ext.drew ?_ | refine Ext.trans ?_ (by assumption))) q0; have q1 := Ext.keep (w' := w1) (by repeat (first | exact Ext.refl _ | assumption | refine Ext.alloc ?_ _ | refine Ext.drew ?_ | refine Ext.trans ?_ (by assumption))) q1)
    go_ret
    exact ⟨ret_int (by simp), (by repeat (first | exact Ext.refl _ | assumption | refine Ext.alloc ?_ _ | refine Ext.drew ?_ | refine Ext.trans ?_ (by assumption)))⟩
  · have HS := hide (prof_small h0)
    go_enter Try.func7, Try.ntmps7
    go_wp2_with (go_at_call 17; refine (prof_impl _ _ _ _ _ (hR.ext (by repeat (first | exact Ext.refl _ | assumption | refine Ext.alloc ?_ _ | refine Ext.drew ?_ | refine Ext.trans ?_ (by assumption))))).mono ?_; rintro e w1 ⟨rfl, hw1⟩; have q0 := Ext.keep (w' := w1) (by repeat (first | exact Ext.refl _ | assumption | refine Ext.alloc ?_ _ | refine Ext.drew ?_ | refine Ext.trans ?_ (by assumption))) q0; have q1 := Ext.keep (w' := w1) (by repeat (first | exact Ext.refl _ | assumption | refine Ext.alloc ?_ _ | refine Ext.drew ?_ | refine Ext.trans ?_ (by assumption))) q1)
    refine (votersV 36 #[] #[] (fun _ => true) _ sz _ _ vs (hR.ext (by repeat (first | exact Ext.refl _ | assumption | refine Ext.alloc ?_ _ | refine Ext.drew ?_ | refine Ext.trans ?_ (by assumption)))) HS.out Try.call36 (fun x a' c' w' _ _ _ _ => trueF _ _)).mono ?_
    rintro e w2 ⟨rfl, hw2⟩
    go_wp2
    go_ret
    exact ⟨ret_int (by simp [allV]), (by repeat (first | exact Ext.refl _ | assumption | refine Ext.alloc ?_ _ | refine Ext.drew ?_ | refine Ext.trans ?_ (by assumption)))⟩

def tabM (vs : List Vt) (n i m o : Nat) : Int := if o < i then minTo vs (allV vs) o n else if o = i then minTo vs (allV vs) i m else allV vs
set_option maxRecDepth 100000 in
theorem tabM_zero (vs : List Vt) (n o : Nat) : tabM vs n 0 0 o = allV vs := by
  unfold tabM; rw [if_neg (by omega)]; split
  · rename_i h; subst h; rfl
  · rfl
set_option maxRecDepth 100000 in
theorem tabM_at (vs : List Vt) (n i m : Nat) : tabM vs n i m i = minTo vs (allV vs) i m := by
  unfold tabM; rw [if_neg (by omega), if_pos rfl]
set_option maxRecDepth 100000 in
theorem tabM_far (vs : List Vt) (n i m m' : Nat) {o : Nat} (h : o ≠ i) : tabM vs n i m o = tabM vs n i m' o := by
  unfold tabM; rw [if_neg h, if_neg h]
set_option maxRecDepth 100000 in
theorem tabM_done (vs : List Vt) (n i o : Nat) : tabM vs n i n o = tabM vs n (i + 1) 0 o := by
  unfold tabM
  by_cases h1 : o < i
  · rw [if_pos h1, if_pos (by omega)]
  · by_cases h2 : o = i
    · subst h2; rw [if_neg h1, if_pos rfl, if_pos (by omega)]
    · rw [if_neg h1, if_neg h2, if_neg (by omega)]; split
      · rename_i h; subst h; rfl
      · rfl

/-- Weights that may be given to n places. -/
def GoodW (f : Nat → Int) : Prop := (∀ j, 0 ≤ f j ∧ f j ≤ 100) ∧ ∀ j, f (j + 1) ≤ f j

set_option maxRecDepth 100000 in
set_option maxHeartbeats 1000000 in
theorem weightsOf_impl (K : Nat) (cap : Array Value) (f : Nat → Int) (w : World) (n : Nat) (n1 : 1 ≤ n) (n2 : n ≤ 5) (hK : Enters Try.prog K)
    (hf : ∀ (j : Nat) (w' : World), j < n → Ext w w' → Calls Try.prog K (#[.int .i64 j] ++ cap) w' fun e w'' => e = .returned (.int .i64 (f j)) ∧ Ext w' w'') :
    Calls Try.prog 93 #[.int .i64 n, .func (.func K) #[] cap] w fun e w' => ∃ v, e = .returned v ∧ OwnI w' w.heap.size v (rowL n f) ∧ Ext w w' := by
  unfold Enters at hK
  have HF := hide hf
  clear hf
  have hin : inR (n : Int) 1 5 = true := inR_iff.2 (by omega)
  go_enter Try.func93, Try.ntmps93
  go_wp2_with (go_at_call 50; refine (in_impl _ _ _ _).mono ?_; rintro e w1 ⟨rfl, hw1⟩)
  have hw : Ext w w1 := hw1
  clear hw1
  go_loopw [5, 6, 11] (fun v _ i wr => ∃ k : Nat, k ≤ n ∧ i = .int .i64 k ∧ OwnI wr w.heap.size v (rowL k f) ∧ Ext w wr) (fun _ _ i _ => n - (intOf i).toNat)
  case atStart => exact ⟨0, Nat.zero_le _, rfl, OwnI.nil _ _, hw⟩
  case round =>
    obtain ⟨k, hk, rfl, hown, hwr⟩ := hrel
    have hrl := rowL_len k f
    by_cases hlt : k < n
    · go_wp2_with fail
      refine (HF.out k wr hlt hwr).mono ?_
      rintro e w1 ⟨rfl, hw1⟩
      go_wp2_with (at_builtin; refine wpList_appI w _ rfl _ _ rfl _ (rowL k f) _ rfl (hown.ext (by repeat (first | exact Ext.refl _ | assumption | refine Ext.alloc ?_ _ | refine Ext.drew ?_ | refine Ext.trans ?_ (by assumption)))) (by repeat (first | exact Ext.refl _ | assumption | refine Ext.alloc ?_ _ | refine Ext.drew ?_ | refine Ext.trans ?_ (by assumption))) rfl (by omega) ?_; intro v' w3 hown3 hw3)
      exact ⟨⟨k + 1, by omega, by go_num, by rw [rowL_succ]; exact hown3, (by repeat (first | exact Ext.refl _ | assumption | refine Ext.alloc ?_ _ | refine Ext.drew ?_ | refine Ext.trans ?_ (by assumption)))⟩, by simp [intOf]; omega⟩
    · have hkn : k = n := by omega
      go_wp2
      go_ret
      rw [hkn] at hown
      exact ⟨_, rfl, hown, hwr⟩

set_option maxRecDepth 100000 in
set_option maxHeartbeats 1000000 in
theorem sortOne (w : World) (x y : Int) (hx : 0 ≤ x ∧ x ≤ 100) (hy : 0 ≤ y ∧ y ≤ 100) :
    Calls Try.prog 101 #[.int .i64 x, .int .i64 y] w fun e w' => e = .returned (.int .i64 (y - x)) ∧ Ext w w' := by
  go_enter Try.func101, Try.ntmps101
  go_wp2
  go_ret
  exact ⟨rfl, (by repeat (first | exact Ext.refl _ | assumption | refine Ext.alloc ?_ _ | refine Ext.drew ?_ | refine Ext.trans ?_ (by assumption)))⟩

set_option maxRecDepth 100000 in
set_option maxHeartbeats 1000000 in
theorem sorted_impl (w : World) (a : Option Addr) (c n : Nat) (f : Nat → Int) (hR : RdI w a (rowL n f)) (n1 : 1 ≤ n) (n2 : n ≤ 5) (hf : GoodW f) :
    Calls Try.prog 100 #[.slice a n c, .func (.func 101) #[] #[]] w fun e w' => e = .returned (.bool true) ∧ Ext w w' := by
  have hK := Try.call101
  have HF := hide hf
  clear hf
  go_enter Try.func100, Try.ntmps100
  go_wp2_with fail
  go_loopw [5] (fun i wr => ∃ k : Nat, k + 1 ≤ n ∧ i = .int .i64 k ∧ Ext w wr) (fun i _ => (intOf i).toNat)
  case atStart => exact ⟨n - 1, by omega, by go_num, Ext.refl _⟩
  case round =>
    obtain ⟨k, hk, rfl, hwr⟩ := hrel
    by_cases hlt : 0 < k
    · obtain ⟨m, hm⟩ : ∃ m : Nat, k = m + 1 := ⟨k - 1, by omega⟩
      subst hm
      obtain ⟨b, off, rfl, c0⟩ := (hR.ext hwr).at_ (rowL_at (f := f) (show m + 1 < n by omega))
      obtain ⟨b2, off2, hb, c1⟩ := (hR.ext hwr).at_ (rowL_at (f := f) (show m < n by omega))
      injection hb with hb
      injection hb with hb hb2
      subst hb
      subst hb2
      have e1 := HF.out.1 m
      have e2 := HF.out.1 (m + 1)
      have e3 := HF.out.2 m
      have y1 : wrap64 ((m : Int) + 1 - 1) = m := by rw [IntWalk.wrap64_in _ (by omega)]; omega
      have y2 : IntKind.i64.wrap ((m : Int) + 1 - 1) = m := by rw [IntWalk.i64_left]; exact y1
      have y3 : wrap64 (m : Int) = m := IntWalk.wrap64_in _ (by omega)
      have y4 : IntKind.i64.wrap (m : Int) = m := IntWalk.i64_in _ (by omega)
      have i1 : (m : Int) + 1 < (n : Int) := by omega
      have i2 : (0 : Int) ≤ (m : Int) + 1 := by omega
      have i3 : ((m : Int) + 1).toNat = m + 1 := by omega
      have i4 : m < n := by omega
      go_wp2
      refine wp_region_X (by kernel_rfl) (by kernel_rfl) ?_
      repeat' (refine wpX_stepQ (fun K hK => ?_)
               go_simp
               try (rw [if_neg (by intro h; simp [undef] at h)])
               try split
               all_goals
                 first
                 | (refine hK _ ?_
                    clear hK K)
                 | (apply Exists.intro
                    refine ⟨fun wq hwq => ?_, hK _ ?_⟩
                    · have hcq := hwq.cellS
                      go_simp
                      first
                      | exact ⟨Ext.refl _, rfl⟩
                      | exact ⟨Ext.refl _, sortOne _ _ _ e2 e1⟩
                    clear hK K))
      refine wpX_nil (fun wz hwz => ?_)
      go_wp2
      exact ⟨⟨m, by omega, by go_num, hwr.trans hwz⟩, by simp [intOf]⟩
    · have hk0 : k = 0 := by omega
      go_wp2
      go_ret
      exact ⟨rfl, hwr⟩

set_option maxRecDepth 100000 in
theorem good_all {n : Nat} {f : Nat → Int} (h : GoodW f) : (rowL n f).all (fun x => inR x 0 100) = true := by
  rw [List.all_eq_true]
  intro x hx
  obtain ⟨j, hj⟩ := List.mem_iff_getElem?.1 hx
  obtain ⟨_, rfl⟩ := rowL_val hj
  exact inR_iff.2 (h.1 j)

set_option maxRecDepth 100000 in
set_option maxHeartbeats 1000000 in
theorem wOk_impl (w : World) (a : Option Addr) (c n : Nat) (f : Nat → Int) (hR : RdI w a (rowL n f)) (n1 : 1 ≤ n) (n2 : n ≤ 5) (hf : GoodW f) :
    Calls Try.prog 92 #[.int .i64 n, .slice a n c] w fun e w' => e = .returned (.bool true) ∧ Ext w w' := by
  have HF := hide hf
  have hin : inR (n : Int) 1 5 = true := inR_iff.2 (by omega)
  have HA : Hid (∀ w', Ext w w' → Calls Try.prog 99 #[.slice a n c, .int .i64 0, .int .i64 100] w' fun e w'' => e = .returned (.bool true) ∧ Ext w' w'') := fun w' hw' => by
    have h := allIn_impl w' a c (rowL n f) 0 100 (hR.ext hw') (by rw [rowL_len]; omega)
    rw [good_all hf, rowL_len] at h
    exact h
  clear hf
  go_enter Try.func92, Try.ntmps92
  go_wp2_with (first | (go_at_call 50; refine (in_impl _ _ _ _).mono ?_; rintro e w1 ⟨rfl, hw1⟩) | (go_at_call 99; refine (HA.out _ (by repeat (first | exact Ext.refl _ | assumption | refine Ext.alloc ?_ _ | refine Ext.drew ?_ | refine Ext.trans ?_ (by assumption)))).mono ?_; rintro e w1 ⟨rfl, hw1⟩) | (go_at_call 100; refine (sorted_impl _ a c n f (hR.ext (by repeat (first | exact Ext.refl _ | assumption | refine Ext.alloc ?_ _ | refine Ext.drew ?_ | refine Ext.trans ?_ (by assumption)))) n1 n2 HF.out).mono ?_; rintro e w1 ⟨rfl, hw1⟩))
  go_ret
  exact ⟨rfl, (by repeat (first | exact Ext.refl _ | assumption | refine Ext.alloc ?_ _ | refine Ext.drew ?_ | refine Ext.trans ?_ (by assumption)))⟩

/-- The score of a candidate. -/
def scoV (f : Nat → Int) (vs : List Vt) (a : Nat) : Int := (vs.map fun x => x.2 * f (placeI x.1 a).toNat).sum
set_option maxRecDepth 100000 in
theorem scoV_at {f : Nat → Int} {vs : List Vt} {k : Nat} {x : Vt} (hx : vs[k]? = some x) (a : Nat) : scoV f (vs.take (k + 1)) a = scoV f (vs.take k) a + x.2 * f (placeI x.1 a).toNat := by
  unfold scoV; rw [take_at hx]; simp
set_option maxRecDepth 100000 in
theorem wf_bd {f : Nat → Int} (hf : GoodW f) {x : Vt} (h1 : 1 ≤ x.2) (h2 : x.2 ≤ 1000) (j : Nat) : 0 ≤ x.2 * f j ∧ x.2 * f j ≤ 100000 := by
  have h3 := hf.1 j
  constructor
  · exact Int.mul_nonneg (by omega) h3.1
  · have : x.2 * f j ≤ 1000 * 100 := Int.mul_le_mul h2 h3.2 h3.1 (by decide)
    omega
set_option maxRecDepth 100000 in
theorem scoV_bd {n : Int} {f : Nat → Int} {vs : List Vt} (hS : SmallV n vs) (hf : GoodW f) (a : Nat) : ∀ k, k ≤ vs.length → 0 ≤ scoV f (vs.take k) a ∧ scoV f (vs.take k) a ≤ 100000 * k
  | 0, _ => by simp [scoV]
  | k + 1, hk => by
    obtain ⟨x, hx⟩ := at_of_lt (xs := vs) (k := k) (by omega)
    have h1 := scoV_bd hS hf a k (by omega)
    have h2 := hS.2 x (List.mem_of_getElem? hx)
    have h3 := wf_bd hf h2.2.1 h2.2.2 (placeI x.1 a).toNat
    rw [scoV_at hx]
    omega
/-- The table while vote k is counted over m places. -/
def scoT (f : Nat → Int) (vs : List Vt) (k : Nat) (x : Vt) (m o : Nat) : Int := scoV f (vs.take k) o + if placeI x.1 o < (m : Int) then x.2 * f (placeI x.1 o).toNat else 0

set_option maxRecDepth 100000 in
theorem pluF : GoodW (fun j => if j = 0 then 1 else 0) := ⟨fun j => by dsimp only; split <;> omega, fun j => by dsimp only; split <;> split <;> omega⟩
set_option maxRecDepth 100000 in
theorem plc_sco {n : Nat} {a : Nat} (ha : a < n) : ∀ {vs : List Vt}, SmallV n vs → scoV (fun j => if j = 0 then 1 else 0) vs a = plcV vs a 0
  | [], _ => by simp [scoV, plcV, sumV]
  | x :: vs, hS => by
    have ih := plc_sco ha hS.tail
    obtain ⟨p, hp, hpl, hpa, hpu⟩ := place_at (hS.2 x (by simp)).1 ha
    have e : scoV (fun j => if j = 0 then 1 else 0) (x :: vs) a = x.2 * (if (placeI x.1 a).toNat = 0 then 1 else 0) + scoV (fun j => if j = 0 then 1 else 0) vs a := by simp [scoV]
    have e2 : plcV (x :: vs) a 0 = (if plcP a 0 x.1 then x.2 else 0) + plcV vs a 0 := sumV_cons _ _ _
    rw [e, e2, ih, hpl]
    by_cases h0 : p = 0
    · subst h0; simp [plcP, hpa]
    · have : plcP a 0 x.1 = false := by
        simp only [plcP, beq_eq_false_iff_ne]
        exact fun h => h0 (hpu 0 h).symm
      rw [this]; simp [h0]

set_option maxRecDepth 100000 in
set_option maxHeartbeats 4000000 in
theorem sco_impl (w : World) (sz : Int) (a aw : Option Addr) (c cw : Nat) (vs : List Vt) (f : Nat → Int) (n : Nat) (hz : sz = n) (hR : RdV w a vs) (hW : RdI w aw (rowL n f)) (hf : GoodW f) (h0 : profOk sz vs = true) :
    Calls Try.prog 83 #[.agg #[.int .i64 sz, .slice a vs.length c], .slice aw n cw] w fun e w' => ∃ v, e = .returned v ∧ WrI w' w.heap.size v (rowL n (scoV f vs)) ∧ Ext w w' := by
  subst hz
  obtain ⟨m, hm, n1, n2⟩ := prof_nat h0
  have hnm : n = m := by omega
  rw [← hnm] at n1 n2
  clear hm hnm m
  have HS := hide (prof_small h0)
  have HF := hide hf
  clear hf
  have hvl := (prof_small h0).1
  have q0 := new0 w (.int .i64 n) [.slice a vs.length c] 26
  have q1 := new1 w (.int .i64 n) (.slice a vs.length c) [] 26
  obtain ⟨i0, hi, hz0, hz1, hz2⟩ := info_parts info_int
  have hmk := fun W => run_make_rowN (P := Try.prog) 31 3 i0 _ Try.underlying31 hi hz0 .i64 .i64 n n (Nat.le_refl _) (by rw [hz2]; omega) (by omega) W
  rw [hz1, Nat.mul_one] at hmk
  go_enter Try.func83, Try.ntmps83
  go_wp2_with (first | (go_at_call 17; refine (prof_impl _ _ _ _ _ (hR.ext (by repeat (first | exact Ext.refl _ | assumption | refine Ext.alloc ?_ _ | refine Ext.drew ?_ | refine Ext.trans ?_ (by assumption))))).mono ?_; rintro e w1 ⟨rfl, hw1⟩; have q0 := Ext.keep (w' := w1) (by repeat (first | exact Ext.refl _ | assumption | refine Ext.alloc ?_ _ | refine Ext.drew ?_ | refine Ext.trans ?_ (by assumption))) q0; have q1 := Ext.keep (w' := w1) (by repeat (first | exact Ext.refl _ | assumption | refine Ext.alloc ?_ _ | refine Ext.drew ?_ | refine Ext.trans ?_ (by assumption))) q1) | (go_at_call 92; refine (wOk_impl _ aw cw n f (hW.ext (by repeat (first | exact Ext.refl _ | assumption | refine Ext.alloc ?_ _ | refine Ext.drew ?_ | refine Ext.trans ?_ (by assumption)))) n1 n2 HF.out).mono ?_; rintro e w1 ⟨rfl, hw1⟩; have q0 := Ext.keep (w' := w1) (by repeat (first | exact Ext.refl _ | assumption | refine Ext.alloc ?_ _ | refine Ext.drew ?_ | refine Ext.trans ?_ (by assumption))) q0; have q1 := Ext.keep (w' := w1) (by repeat (first | exact Ext.refl _ | assumption | refine Ext.alloc ?_ _ | refine Ext.drew ?_ | refine Ext.trans ?_ (by assumption))) q1))
  clear hmk
  have hw : Ext w w1 := (by repeat (first | exact Ext.refl _ | assumption | refine Ext.alloc ?_ _ | refine Ext.drew ?_ | refine Ext.trans ?_ (by assumption)))
  have hR0 := hR.ext hw
  have hW0 := hW.ext hw
  have hB := BlkF.new w1 (madeCells #[.int .i64 0] n) 3
  rw [size_madeCells] at hB
  have hB := hB.congr (f' := fun o => .int .i64 (scoV f (vs.take 0) o)) (fun o ho => by rw [show scoV f (vs.take 0) o = 0 by simp [scoV]]; exact made_int n o ho)
  have h20 := Ext.new w1 (.cells (madeCells #[.int .i64 0] n) 3)
  obtain ⟨wb, hwb⟩ : ∃ wb : World, wb = w1 := ⟨_, rfl⟩
  subst hwb
  have q0 := h20.keep q0
  have q1 := h20.keep q1
  generalize wb.alloc (.cells (madeCells #[.int .i64 0] n) 3) = W0 at hB h20 q0 q1 ⊢
  go_wp2_with fail
  go_loopw [7, 8, 9, 26, 31, 32, 33] (fun _ _ _ i _ _ _ wr => ∃ k : Nat, k ≤ vs.length ∧ i = .int .i64 k ∧ BlkF wr wb.heap.size n (fun o => .int .i64 (scoV f (vs.take k) o)) ∧ Ext wb wr) (fun _ _ _ i _ _ _ _ => vs.length - (intOf i).toNat)
  case atStart => exact ⟨0, Nat.zero_le _, rfl, hB, h20⟩
  case round =>
    clear hB h20
    obtain ⟨k, hk, rfl, hB, hwr⟩ := hrel
    by_cases hlt : k < vs.length
    · obtain ⟨x, hx⟩ := at_of_lt hlt
      obtain ⟨b, off, a', c', rfl, c0, c1, hc', hRx⟩ := hR0.at_ hx
      have c0 := hwr.keep c0
      have c1 := hwr.keep c1
      have hgl := hB.lt
      obtain ⟨x0, x1, x2⟩ := HS.out.2 x (List.mem_of_getElem? hx)
      have hxl := (rk_len x0).1
      have HX0 := hide x0
      have HX := hide hx
      clear hx x0
      have e0 := new0 wr (.slice a' x.1.length c') [.int .i64 x.2] 59
      have e1 := new1 wr (.slice a' x.1.length c') (.int .i64 x.2) [] 59
      have hlen : x.1.length = n := by omega
      rw [hlen] at c0 e0 e1 hc'
      clear hxl hlen
      have hBx := hB.ext (Ext.new wr (.cells #[.slice a' n c', .int .i64 x.2] 59))
      clear hB
      have hB := hBx.congr (f' := fun o => .int .i64 (scoT f vs k x 0 o)) (fun o ho => by
        obtain ⟨p, _, hpl, _⟩ := place_at HX0.out ho
        unfold scoT
        rw [hpl, if_neg (by omega)]; simp)
      clear hBx
      have hE := Ext.new wr (.cells #[.slice a' n c', .int .i64 x.2] 59)
      have c1' := HX.out
      go_wp2_with fail
      clear c0 c1 c1'
      generalize wr.alloc (.cells #[.slice a' n c', .int .i64 x.2] 59) = W1 at hB hE e0 e1 ⊢
      have hwr := hwr.trans hE
      clear hE
      go_loopw [8, 9, 33] (fun _ _ i w2 => ∃ m : Nat, m ≤ n ∧ i = .int .i64 m ∧ BlkF w2 wb.heap.size n (fun o => .int .i64 (scoT f vs k x m o)) ∧ Ext wb w2 ∧ w2.cell? ⟨wr.heap.size, 1, none⟩ = some (.int .i64 x.2)) (fun _ _ i _ => n - (intOf i).toNat)
      case atStart => exact ⟨0, Nat.zero_le _, rfl, hB, hwr, e1⟩
      case round =>
        clear hB hwr e1 e0
        obtain ⟨m, hm, rfl, hB, hwr2, e1⟩ := hrel
        by_cases hmt : m < n
        · obtain ⟨y, hy⟩ := at_of_lt (xs := x.1) (k := m) (by have := (rk_len HX0.out).1; omega)
          have hym := rk_mem HX0.out (List.mem_of_getElem? hy)
          obtain ⟨o, rfl⟩ : ∃ o : Nat, y = o := ⟨y.toNat, by omega⟩
          have ho : o < n := by omega
          obtain ⟨p, hp, hpl, hpa, hpu⟩ := place_at HX0.out ho
          have hpm : p = m := (hpu m hy).symm
          rw [hpm] at hpl hpa
          have hoth : ∀ o', o' < n → o' ≠ o → scoT f vs k x (m + 1) o' = scoT f vs k x m o' := fun o' ho' hne => by
            obtain ⟨p', _, hpl', hpa', _⟩ := place_at HX0.out ho'
            have hne2 : p' ≠ m := fun e => by rw [e, hy] at hpa'; injection hpa' with h; omega
            unfold scoT
            rw [hpl']
            by_cases h1 : p' < m
            · rw [if_pos (by omega), if_pos (by omega)]
            · rw [if_neg (by omega), if_neg (by omega)]
          have hat : scoT f vs k x m o = scoV f (vs.take k) o := by unfold scoT; rw [hpl, if_neg (by omega)]; simp
          have hnx : scoT f vs k x (m + 1) o = scoV f (vs.take k) o + x.2 * f m := by unfold scoT; rw [hpl, if_pos (by omega)]; simp
          obtain ⟨b2, off2, rfl, d2⟩ := (hRx.ext hwr2).at_ hy
          obtain ⟨b3, off3, rfl, d3⟩ := (hW0.ext hwr2).at_ (rowL_at (f := f) hmt)
          have d4 := hB.cell o ho
          rw [hat] at d4
          have z4 := hB.fr o
          obtain ⟨s1, s2⟩ := scoV_bd HS.out HF.out o k hk
          obtain ⟨s3, s4⟩ := wf_bd HF.out x1 x2 m
          have y1 : wrap64 (x.2 * f m) = x.2 * f m := IntWalk.wrap64_in _ (by omega)
          have y2 : IntKind.i64.wrap (x.2 * f m) = x.2 * f m := IntWalk.i64_in _ (by omega)
          have y3 : wrap64 (scoV f (vs.take k) o + x.2 * f m) = scoT f vs k x (m + 1) o := by rw [IntWalk.wrap64_in _ (by omega), hnx]
          have y4 : IntKind.i64.wrap (scoV f (vs.take k) o + x.2 * f m) = scoT f vs k x (m + 1) o := by rw [IntWalk.i64_left]; exact y3
          have HO := hide hoth
          have HB := hide hB
          clear hoth hB hat hnx hpl hpa hpu hpm s1 s2 s3 s4 hy hym
          go_wp2
          refine wp_region_X (by kernel_rfl) (by kernel_rfl) ?_
          repeat' (refine wpX_stepQ (fun K hK => ?_)
                   go_simp
                   try (rw [if_neg (by intro h; simp [undef] at h)])
                   try split
                   all_goals
                     first
                     | (refine hK _ ?_
                        clear hK K)
                     | (apply Exists.intro
                        refine ⟨fun wq hwq => ?_, hK _ ?_⟩
                        · have hcq := hwq.cellS
                          go_simp
                          first
                          | exact ⟨Ext.refl _, rfl⟩
                        clear hK K))
          refine wpX_stepL rfl (by kernel_rfl) (by kernel_rfl) (by kernel_rfl) (fun K hK wz hwz => ?_)
          have hcz := hwz.cellS
          have hfz := hwz.frozenS
          go_simp
          refine hK _ _ ?_
          clear hK K
          go_wp2
          refine ⟨⟨m + 1, by omega, by go_num, ((HB.out.ext hwz).set o ho _).congr (fun o' ho' => ?_), Ext.setCell (hwr2.trans hwz) (Nat.le_refl _) _, ?_⟩, by simp [intOf]; omega⟩
          · by_cases e : o' = o
            · subst e; rw [if_pos rfl]
            · rw [if_neg e, HO.out o' ho' e]
          · rw [World.cell?_setCell_other _ _ _ _ (by simp only [ne_eq, Addr.mk.injEq, not_and]; omega)]
            exact hwz.keep e1
        · have hmn : m = n := by omega
          go_wp2
          refine ⟨⟨k + 1, by omega, by go_num, hB.congr (fun o ho => ?_), hwr2⟩, by simp [intOf]; omega⟩
          obtain ⟨p, hp, hpl, _⟩ := place_at HX0.out ho
          rw [scoV_at HX.out, hmn]
          unfold scoT
          rw [hpl, if_pos (by omega)]
    · have hkl : k = vs.length := by omega
      go_wp2
      go_ret
      refine ⟨_, rfl, hB.wrI (rowL_len _ _) (fun j x hx => ?_) hw.size (Nat.le_refl _), hw.trans hwr⟩
      obtain ⟨hj, rfl⟩ := rowL_val hx
      rw [hkl, List.take_length]

end Go.Proofs.Ytkbbcglghfddjaa
