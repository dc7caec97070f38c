/- How many rank a candidate among the first k. Weights of places, and the scores of a profile by them (the program's side). slices.Repeat of one integer. -/
import Derived.Test.YtkbbcglghfddjaaCg7
import Derived.Test.YtkbbcglghfddjaaCg5
import Derived.Test.YtkbbcglghfddjaaCg3
import Derived.Laws.IdiomCopy
namespace Go.Proofs.Ytkbbcglghfddjaa
open Go.RowKit

set_option maxRecDepth 100000 in
theorem sumV_nil (p : List Int → Bool) : sumV p [] = 0 := by simp [sumV]
set_option maxRecDepth 100000 in
theorem sumV_cons (p : List Int → Bool) (x : Vt) (vs : List Vt) : sumV p (x :: vs) = (if p x.1 then x.2 else 0) + sumV p vs := by
  unfold sumV
  cases h : p x.1 <;> simp [h]
set_option maxRecDepth 100000 in
theorem sumV_none : ∀ vs : List Vt, sumV (fun _ => false) vs = 0
  | [] => rfl
  | x :: vs => by rw [sumV_cons, sumV_none vs]; simp
set_option maxRecDepth 100000 in
theorem sumV_all : ∀ vs : List Vt, sumV (fun _ => true) vs = (vs.map Prod.snd).sum
  | [] => rfl
  | x :: vs => by rw [sumV_cons, sumV_all vs]; simp
set_option maxRecDepth 100000 in
theorem sumV_congr {p q : List Int → Bool} : ∀ {vs : List Vt}, (∀ x ∈ vs, p x.1 = q x.1) → sumV p vs = sumV q vs
  | [], _ => rfl
  | x :: vs, h => by rw [sumV_cons, sumV_cons, h x (by simp), sumV_congr (fun y hy => h y (by simp [hy]))]
set_option maxRecDepth 100000 in
theorem sumV_add {p q r : List Int → Bool} : ∀ {vs : List Vt}, (∀ x ∈ vs, r x.1 = (p x.1 || q x.1) ∧ (p x.1 && q x.1) = false) → sumV r vs = sumV p vs + sumV q vs
  | [], _ => by simp [sumV]
  | x :: vs, h => by
    obtain ⟨h1, h2⟩ := h x (by simp)
    rw [sumV_cons, sumV_cons, sumV_cons, h1, sumV_add (fun y hy => h y (by simp [hy]))]
    cases hp : p x.1 <;> cases hq : q x.1 <;> simp [hp, hq] at h2 ⊢ <;> omega
set_option maxRecDepth 100000 in
theorem SmallV.tail {sz : Int} {x : Vt} {vs : List Vt} (h : SmallV sz (x :: vs)) : SmallV sz vs := ⟨by have := h.1; simp at this; omega, fun y hy => h.2 y (by simp [hy])⟩

def wthP (a k : Nat) (r : List Int) : Bool := decide (placeI r a < (k : Int))
def wthV (vs : List Vt) (k a : Nat) : Int := sumV (wthP a k) vs
def sumN (f : Nat → Int) : Nat → Int
  | 0 => 0
  | k + 1 => sumN f k + f k
set_option maxRecDepth 100000 in
theorem wth_sum {n a : Nat} {vs : List Vt} (hS : SmallV n vs) (ha : a < n) : ∀ k, sumN (plcV vs a) k = wthV vs k a
  | 0 => by
    unfold sumN wthV
    rw [sumV_congr (q := fun _ => false) (fun x hx => by
      obtain ⟨p, _, hp, _⟩ := place_at (hS.2 x hx).1 ha
      simp [wthP, hp])]
    exact (sumV_none vs).symm
  | k + 1 => by
    unfold sumN
    rw [wth_sum hS ha k]
    unfold wthV plcV
    refine (sumV_add fun x hx => ?_).symm
    obtain ⟨p, _, hp, h1, h2⟩ := place_at (hS.2 x hx).1 ha
    have e : plcP a k x.1 = decide (p = k) := by
      by_cases e : p = k
      · subst e; simp [plcP, h1]
      · simp only [plcP, e, decide_false, beq_eq_false_iff_ne]
        exact fun h3 => e (h2 k h3).symm
    rw [e]
    unfold wthP
    rw [hp]
    by_cases h3 : p = k
    · have h4 : (p : Int) < ((k + 1 : Nat) : Int) := by omega
      have h5 : ¬ (p : Int) < (k : Int) := by omega
      rw [decide_eq_true h4, decide_eq_false h5, decide_eq_true h3]; simp
    · by_cases h4 : (p : Int) < (k : Int)
      · have h5 : (p : Int) < ((k + 1 : Nat) : Int) := by omega
        rw [decide_eq_true h4, decide_eq_true h5, decide_eq_false h3]; simp
      · have h5 : ¬ (p : Int) < ((k + 1 : Nat) : Int) := by omega
        rw [decide_eq_false h4, decide_eq_false h5, decide_eq_false h3]; simp
set_option maxRecDepth 100000 in
theorem sumN_bd {f : Nat → Int} {M : Int} (h : ∀ j, 0 ≤ f j ∧ f j ≤ M) : ∀ k, 0 ≤ sumN f k ∧ sumN f k ≤ M * k
  | 0 => by simp [sumN]
  | k + 1 => by
    have h1 := sumN_bd h k
    have h2 := h k
    unfold sumN
    have : M * ((k + 1 : Nat) : Int) = M * k + M := by rw [Int.natCast_succ, Int.mul_add]; simp
    omega
set_option maxRecDepth 100000 in
theorem wthV_bd {n : Int} {vs : List Vt} (hS : SmallV n vs) (k a : Nat) : 0 ≤ wthV vs k a ∧ wthV vs k a ≤ 24000 := sumV_bd' hS

set_option maxRecDepth 100000 in
/-- A row of a matrix of the call's own. -/
theorem WrSS.at_ {w : World} {B : Nat} {v : Value} {xss : List (List Int)} (h : WrSS w B v xss) {k : Nat} {xs : List Int} (hx : xss[k]? = some xs) :
    ∃ g c a' c', v = .slice (some ⟨g, 0, none⟩) xss.length c ∧ w.cell? ⟨g, k, none⟩ = some (.slice a' xs.length c') ∧ xs.length ≤ c' ∧ RdI w a' xs := by
  obtain ⟨a, c, hv, hc, ho⟩ := h
  obtain ⟨g, us, rfl, hM⟩ := ho (ne_of_at hx)
  have h1 := hM.row k (lt_of_at hx)
  simp only [List.getD, hx, Option.getD_some] at h1
  obtain ⟨a', c', hu, hc', _, hR, _⟩ := h1.val
  exact ⟨g, c, a', c', hv, by rw [hM.outer.cell k (lt_of_at hx), hu], hc', hR⟩

/-- Weights that may be given to n places. -/
def GoodW (f : Nat → Int) : Prop := (∀ j, 0 ≤ f j ∧ f j ≤ 100) ∧ ∀ j, f (j + 1) ≤ f j

set_option maxRecDepth 100000 in
set_option maxHeartbeats 1000000 in
theorem weightsOf_impl (K : Nat) (cap : Array Value) (f : Nat → Int) (w : World) (n : Nat) (n1 : 1 ≤ n) (n2 : n ≤ 5) (hK : Enters Try.prog K)
    (hf : ∀ (j : Nat) (w' : World), j < n → Ext w w' → Calls Try.prog K (#[.int .i64 j] ++ cap) w' fun e w'' => e = .returned (.int .i64 (f j)) ∧ Ext w' w'') :
    Calls Try.prog 93 #[.int .i64 n, .func (.func K) #[] cap] w fun e w' => ∃ v, e = .returned v ∧ OwnI w' w.heap.size v (rowL n f) ∧ Ext w w' := by
  unfold Enters at hK
  have HF := hide hf
  clear hf
  have hin : inR (n : Int) 1 5 = true := inR_iff.2 (by omega)
  go_enter Try.func93, Try.ntmps93
  go_wp2_with (go_at_call 50; refine (in_impl _ _ _ _).mono ?_; rintro e w1 ⟨rfl, hw1⟩)
  have hw : Ext w w1 := hw1
  clear hw1
  go_loopw [5, 6, 11] (fun v _ i wr => ∃ k : Nat, k ≤ n ∧ i = .int .i64 k ∧ OwnI wr w.heap.size v (rowL k f) ∧ Ext w wr) (fun _ _ i _ => n - (intOf i).toNat)
  case atStart => exact ⟨0, Nat.zero_le _, rfl, OwnI.nil _ _, hw⟩
  case round =>
    obtain ⟨k, hk, rfl, hown, hwr⟩ := hrel
    have hrl := rowL_len k f
    by_cases hlt : k < n
    · go_wp2_with fail
      refine (HF.out k wr hlt hwr).mono ?_
      rintro e w1 ⟨rfl, hw1⟩
      go_wp2_with (at_builtin; refine wpList_appI w _ rfl _ _ rfl _ (rowL k f) _ rfl (hown.ext (by repeat (first | exact Ext.refl _ | assumption | refine Ext.alloc ?_ _ | refine Ext.drew ?_ | refine Ext.trans ?_ (by assumption)))) (by repeat (first | exact Ext.refl _ | assumption | refine Ext.alloc ?_ _ | refine Ext.drew ?_ | refine Ext.trans ?_ (by assumption))) rfl (by omega) ?_; intro v' w3 hown3 hw3)
      exact ⟨⟨k + 1, by omega, by go_num, by rw [rowL_succ]; exact hown3, (by repeat (first | exact Ext.refl _ | assumption | refine Ext.alloc ?_ _ | refine Ext.drew ?_ | refine Ext.trans ?_ (by assumption)))⟩, by simp [intOf]; omega⟩
    · have hkn : k = n := by omega
      go_wp2
      go_ret
      rw [hkn] at hown
      exact ⟨_, rfl, hown, hwr⟩

set_option maxRecDepth 100000 in
set_option maxHeartbeats 1000000 in
theorem sortOne (w : World) (x y : Int) (hx : 0 ≤ x ∧ x ≤ 100) (hy : 0 ≤ y ∧ y ≤ 100) :
    Calls Try.prog 101 #[.int .i64 x, .int .i64 y] w fun e w' => e = .returned (.int .i64 (y - x)) ∧ Ext w w' := by
  go_enter Try.func101, Try.ntmps101
  go_wp2
  go_ret
  exact ⟨rfl, (by repeat (first | exact Ext.refl _ | assumption | refine Ext.alloc ?_ _ | refine Ext.drew ?_ | refine Ext.trans ?_ (by assumption)))⟩

set_option maxRecDepth 100000 in
set_option maxHeartbeats 1000000 in
theorem sorted_impl (w : World) (a : Option Addr) (c n : Nat) (f : Nat → Int) (hR : RdI w a (rowL n f)) (n1 : 1 ≤ n) (n2 : n ≤ 5) (hf : GoodW f) :
    Calls Try.prog 100 #[.slice a n c, .func (.func 101) #[] #[]] w fun e w' => e = .returned (.bool true) ∧ Ext w w' := by
  have hK := Try.call101
  have HF := hide hf
  clear hf
  go_enter Try.func100, Try.ntmps100
  go_wp2_with fail
  go_loopw [5] (fun i wr => ∃ k : Nat, k + 1 ≤ n ∧ i = .int .i64 k ∧ Ext w wr) (fun i _ => (intOf i).toNat)
  case atStart => exact ⟨n - 1, by omega, by go_num, Ext.refl _⟩
  case round =>
    obtain ⟨k, hk, rfl, hwr⟩ := hrel
    by_cases hlt : 0 < k
    · obtain ⟨m, hm⟩ : ∃ m : Nat, k = m + 1 := ⟨k - 1, by omega⟩
      subst hm
      obtain ⟨b, off, rfl, c0⟩ := (hR.ext hwr).at_ (rowL_at (f := f) (show m + 1 < n by omega))
      obtain ⟨b2, off2, hb, c1⟩ := (hR.ext hwr).at_ (rowL_at (f := f) (show m < n by omega))
      injection hb with hb
      injection hb with hb hb2
      subst hb
      subst hb2
      have e1 := HF.out.1 m
      have e2 := HF.out.1 (m + 1)
      have e3 := HF.out.2 m
      have y1 : wrap64 ((m : Int) + 1 - 1) = m := by rw [IntWalk.wrap64_in _ (by omega)]; omega
      have y2 : IntKind.i64.wrap ((m : Int) + 1 - 1) = m := by rw [IntWalk.i64_left]; exact y1
      have y3 : wrap64 (m : Int) = m := IntWalk.wrap64_in _ (by omega)
      have y4 : IntKind.i64.wrap (m : Int) = m := IntWalk.i64_in _ (by omega)
      have i1 : (m : Int) + 1 < (n : Int) := by omega
      have i2 : (0 : Int) ≤ (m : Int) + 1 := by omega
      have i3 : ((m : Int) + 1).toNat = m + 1 := by omega
      have i4 : m < n := by omega
      go_wp2
      refine wp_region_X (by kernel_rfl) (by kernel_rfl) ?_
      repeat' (refine wpX_stepQ (fun K hK => ?_)
               go_simp
               try (rw [if_neg (by intro h; simp [undef] at h)])
               try split
               all_goals
                 first
                 | (refine hK _ ?_
                    clear hK K)
                 | (apply Exists.intro
                    refine ⟨fun wq hwq => ?_, hK _ ?_⟩
                    · have hcq := hwq.cellS
                      go_simp
                      first
                      | exact ⟨Ext.refl _, rfl⟩
                      | exact ⟨Ext.refl _, sortOne _ _ _ e2 e1⟩
                    clear hK K))
      refine wpX_nil (fun wz hwz => ?_)
      go_wp2
      exact ⟨⟨m, by omega, by go_num, hwr.trans hwz⟩, by simp [intOf]⟩
    · have hk0 : k = 0 := by omega
      go_wp2
      go_ret
      exact ⟨rfl, hwr⟩

set_option maxRecDepth 100000 in
theorem good_all {n : Nat} {f : Nat → Int} (h : GoodW f) : (rowL n f).all (fun x => inR x 0 100) = true := by
  rw [List.all_eq_true]
  intro x hx
  obtain ⟨j, hj⟩ := List.mem_iff_getElem?.1 hx
  obtain ⟨_, rfl⟩ := rowL_val hj
  exact inR_iff.2 (h.1 j)

set_option maxRecDepth 100000 in
set_option maxHeartbeats 1000000 in
theorem wOk_impl (w : World) (a : Option Addr) (c n : Nat) (f : Nat → Int) (hR : RdI w a (rowL n f)) (n1 : 1 ≤ n) (n2 : n ≤ 5) (hf : GoodW f) :
    Calls Try.prog 92 #[.int .i64 n, .slice a n c] w fun e w' => e = .returned (.bool true) ∧ Ext w w' := by
  have HF := hide hf
  have hin : inR (n : Int) 1 5 = true := inR_iff.2 (by omega)
  have HA : Hid (∀ w', Ext w w' → Calls Try.prog 99 #[.slice a n c, .int .i64 0, .int .i64 100] w' fun e w'' => e = .returned (.bool true) ∧ Ext w' w'') := fun w' hw' => by
    have h := allIn_impl w' a c (rowL n f) 0 100 (hR.ext hw') (by rw [rowL_len]; omega)
    rw [good_all hf, rowL_len] at h
    exact h
  clear hf
  go_enter Try.func92, Try.ntmps92
  go_wp2_with (first | (go_at_call 50; refine (in_impl _ _ _ _).mono ?_; rintro e w1 ⟨rfl, hw1⟩) | (go_at_call 99; refine (HA.out _ (by repeat (first | exact Ext.refl _ | assumption | refine Ext.alloc ?_ _ | refine Ext.drew ?_ | refine Ext.trans ?_ (by assumption)))).mono ?_; rintro e w1 ⟨rfl, hw1⟩) | (go_at_call 100; refine (sorted_impl _ a c n f (hR.ext (by repeat (first | exact Ext.refl _ | assumption | refine Ext.alloc ?_ _ | refine Ext.drew ?_ | refine Ext.trans ?_ (by assumption)))) n1 n2 HF.out).mono ?_; rintro e w1 ⟨rfl, hw1⟩))
  go_ret
  exact ⟨rfl, (by repeat (first | exact Ext.refl _ | assumption | refine Ext.alloc ?_ _ | refine Ext.drew ?_ | refine Ext.trans ?_ (by assumption)))⟩

/-- The score of a candidate. -/
def scoV (f : Nat → Int) (vs : List Vt) (a : Nat) : Int := (vs.map fun x => x.2 * f (placeI x.1 a).toNat).sum
set_option maxRecDepth 100000 in
theorem scoV_at {f : Nat → Int} {vs : List Vt} {k : Nat} {x : Vt} (hx : vs[k]? = some x) (a : Nat) : scoV f (vs.take (k + 1)) a = scoV f (vs.take k) a + x.2 * f (placeI x.1 a).toNat := by
  unfold scoV; rw [take_at hx]; simp
set_option maxRecDepth 100000 in
theorem wf_bd {f : Nat → Int} (hf : GoodW f) {x : Vt} (h1 : 1 ≤ x.2) (h2 : x.2 ≤ 1000) (j : Nat) : 0 ≤ x.2 * f j ∧ x.2 * f j ≤ 100000 := by
  have h3 := hf.1 j
  constructor
  · exact Int.mul_nonneg (by omega) h3.1
  · have : x.2 * f j ≤ 1000 * 100 := Int.mul_le_mul h2 h3.2 h3.1 (by decide)
    omega
set_option maxRecDepth 100000 in
theorem scoV_bd {n : Int} {f : Nat → Int} {vs : List Vt} (hS : SmallV n vs) (hf : GoodW f) (a : Nat) : ∀ k, k ≤ vs.length → 0 ≤ scoV f (vs.take k) a ∧ scoV f (vs.take k) a ≤ 100000 * k
  | 0, _ => by simp [scoV]
  | k + 1, hk => by
    obtain ⟨x, hx⟩ := at_of_lt (xs := vs) (k := k) (by omega)
    have h1 := scoV_bd hS hf a k (by omega)
    have h2 := hS.2 x (List.mem_of_getElem? hx)
    have h3 := wf_bd hf h2.2.1 h2.2.2 (placeI x.1 a).toNat
    rw [scoV_at hx]
    omega
/-- The table while vote k is counted over m places. -/
def scoT (f : Nat → Int) (vs : List Vt) (k : Nat) (x : Vt) (m o : Nat) : Int := scoV f (vs.take k) o + if placeI x.1 o < (m : Int) then x.2 * f (placeI x.1 o).toNat else 0

set_option maxRecDepth 100000 in
theorem pluF : GoodW (fun j => if j = 0 then 1 else 0) := ⟨fun j => by dsimp only; split <;> omega, fun j => by dsimp only; split <;> split <;> omega⟩
set_option maxRecDepth 100000 in
theorem plc_sco {n : Nat} {a : Nat} (ha : a < n) : ∀ {vs : List Vt}, SmallV n vs → scoV (fun j => if j = 0 then 1 else 0) vs a = plcV vs a 0
  | [], _ => by simp [scoV, plcV, sumV]
  | x :: vs, hS => by
    have ih := plc_sco ha hS.tail
    obtain ⟨p, hp, hpl, hpa, hpu⟩ := place_at (hS.2 x (by simp)).1 ha
    have e : scoV (fun j => if j = 0 then 1 else 0) (x :: vs) a = x.2 * (if (placeI x.1 a).toNat = 0 then 1 else 0) + scoV (fun j => if j = 0 then 1 else 0) vs a := by simp [scoV]
    have e2 : plcV (x :: vs) a 0 = (if plcP a 0 x.1 then x.2 else 0) + plcV vs a 0 := sumV_cons _ _ _
    rw [e, e2, ih, hpl]
    by_cases h0 : p = 0
    · subst h0; simp [plcP, hpa]
    · have : plcP a 0 x.1 = false := by
        simp only [plcP, beq_eq_false_iff_ne]
        exact fun h => h0 (hpu 0 h).symm
      rw [this]; simp [h0]

set_option maxRecDepth 100000 in
set_option maxHeartbeats 4000000 in
theorem sco_impl (w : World) (sz : Int) (a aw : Option Addr) (c cw : Nat) (vs : List Vt) (f : Nat → Int) (n : Nat) (hz : sz = n) (hR : RdV w a vs) (hW : RdI w aw (rowL n f)) (hf : GoodW f) (h0 : profOk sz vs = true) :
    Calls Try.prog 83 #[.agg #[.int .i64 sz, .slice a vs.length c], .slice aw n cw] w fun e w' => ∃ v, e = .returned v ∧ WrI w' w.heap.size v (rowL n (scoV f vs)) ∧ Ext w w' := by
  subst hz
  obtain ⟨m, hm, n1, n2⟩ := prof_nat h0
  have hnm : n = m := by omega
  rw [← hnm] at n1 n2
  clear hm hnm m
  have HS := hide (prof_small h0)
  have HF := hide hf
  clear hf
  have hvl := (prof_small h0).1
  have q0 := new0 w (.int .i64 n) [.slice a vs.length c] 26
  have q1 := new1 w (.int .i64 n) (.slice a vs.length c) [] 26
  obtain ⟨i0, hi, hz0, hz1, hz2⟩ := info_parts info_int
  have hmk := fun W => run_make_rowN (P := Try.prog) 31 3 i0 _ Try.underlying31 hi hz0 .i64 .i64 n n (Nat.le_refl _) (by rw [hz2]; omega) (by omega) W
  rw [hz1, Nat.mul_one] at hmk
  go_enter Try.func83, Try.ntmps83
  go_wp2_with (first | (go_at_call 17; refine (prof_impl _ _ _ _ _ (hR.ext (by repeat (first | exact Ext.refl _ | assumption | refine Ext.alloc ?_ _ | refine Ext.drew ?_ | refine Ext.trans ?_ (by assumption))))).mono ?_; rintro e w1 ⟨rfl, hw1⟩; have q0 := Ext.keep (w' := w1) (by repeat (first | exact Ext.refl _ | assumption | refine Ext.alloc ?_ _ | refine Ext.drew ?_ | refine Ext.trans ?_ (by assumption))) q0; have q1 := Ext.keep (w' := w1) (by repeat (first | exact Ext.refl _ | assumption | refine Ext.alloc ?_ _ | refine Ext.drew ?_ | refine Ext.trans ?_ (by assumption))) q1) | (go_at_call 92; refine (wOk_impl _ aw cw n f (hW.ext (by repeat (first | exact Ext.refl _ | assumption | refine Ext.alloc ?_ _ | refine Ext.drew ?_ | refine Ext.trans ?_ (by assumption)))) n1 n2 HF.out).mono ?_; rintro e w1 ⟨rfl, hw1⟩; have q0 := Ext.keep (w' := w1) (by repeat (first | exact Ext.refl _ | assumption | refine Ext.alloc ?_ _ | refine Ext.drew ?_ | refine Ext.trans ?_ (by assumption))) q0; have q1 := Ext.keep (w' := w1) (by repeat (first | exact Ext.refl _ | assumption | refine Ext.alloc ?_ _ | refine Ext.drew ?_ | refine Ext.trans ?_ (by assumption))) q1))
  clear hmk
  have hw : Ext w w1 := (by repeat (first | exact Ext.refl _ | assumption | refine Ext.alloc ?_ _ | refine Ext.drew ?_ | refine Ext.trans ?_ (by assumption)))
  have hR0 := hR.ext hw
  have hW0 := hW.ext hw
  have hB := BlkF.new w1 (madeCells #[.int .i64 0] n) 3
  rw [size_madeCells] at hB
  have hB := hB.congr (f' := fun o => .int .i64 (scoV f (vs.take 0) o)) (fun o ho => by rw [show scoV f (vs.take 0) o = 0 by simp [scoV]]; exact made_int n o ho)
  have h20 := Ext.new w1 (.cells (madeCells #[.int .i64 0] n) 3)
  obtain ⟨wb, hwb⟩ : ∃ wb : World, wb = w1 := ⟨_, rfl⟩
  subst hwb
  have q0 := h20.keep q0
  have q1 := h20.keep q1
  generalize wb.alloc (.cells (madeCells #[.int .i64 0] n) 3) = W0 at hB h20 q0 q1 ⊢
  go_wp2_with fail
  go_loopw [7, 8, 9, 26, 31, 32, 33] (fun _ _ _ i _ _ _ wr => ∃ k : Nat, k ≤ vs.length ∧ i = .int .i64 k ∧ BlkF wr wb.heap.size n (fun o => .int .i64 (scoV f (vs.take k) o)) ∧ Ext wb wr) (fun _ _ _ i _ _ _ _ => vs.length - (intOf i).toNat)
  case atStart => exact ⟨0, Nat.zero_le _, rfl, hB, h20⟩
  case round =>
    clear hB h20
    obtain ⟨k, hk, rfl, hB, hwr⟩ := hrel
    by_cases hlt : k < vs.length
    · obtain ⟨x, hx⟩ := at_of_lt hlt
      obtain ⟨b, off, a', c', rfl, c0, c1, hc', hRx⟩ := hR0.at_ hx
      have c0 := hwr.keep c0
      have c1 := hwr.keep c1
      have hgl := hB.lt
      obtain ⟨x0, x1, x2⟩ := HS.out.2 x (List.mem_of_getElem? hx)
      have hxl := (rk_len x0).1
      have HX0 := hide x0
      have HX := hide hx
      clear hx x0
      have e0 := new0 wr (.slice a' x.1.length c') [.int .i64 x.2] 59
      have e1 := new1 wr (.slice a' x.1.length c') (.int .i64 x.2) [] 59
      have hlen : x.1.length = n := by omega
      rw [hlen] at c0 e0 e1 hc'
      clear hxl hlen
      have hBx := hB.ext (Ext.new wr (.cells #[.slice a' n c', .int .i64 x.2] 59))
      clear hB
      have hB := hBx.congr (f' := fun o => .int .i64 (scoT f vs k x 0 o)) (fun o ho => by
        obtain ⟨p, _, hpl, _⟩ := place_at HX0.out ho
        unfold scoT
        rw [hpl, if_neg (by omega)]; simp)
      clear hBx
      have hE := Ext.new wr (.cells #[.slice a' n c', .int .i64 x.2] 59)
      have c1' := HX.out
      go_wp2_with fail
      clear c0 c1 c1'
      generalize wr.alloc (.cells #[.slice a' n c', .int .i64 x.2] 59) = W1 at hB hE e0 e1 ⊢
      have hwr := hwr.trans hE
      clear hE
      go_loopw [8, 9, 33] (fun _ _ i w2 => ∃ m : Nat, m ≤ n ∧ i = .int .i64 m ∧ BlkF w2 wb.heap.size n (fun o => .int .i64 (scoT f vs k x m o)) ∧ Ext wb w2 ∧ w2.cell? ⟨wr.heap.size, 1, none⟩ = some (.int .i64 x.2)) (fun _ _ i _ => n - (intOf i).toNat)
      case atStart => exact ⟨0, Nat.zero_le _, rfl, hB, hwr, e1⟩
      case round =>
        clear hB hwr e1 e0
        obtain ⟨m, hm, rfl, hB, hwr2, e1⟩ := hrel
        by_cases hmt : m < n
        · obtain ⟨y, hy⟩ := at_of_lt (xs := x.1) (k := m) (by have := (rk_len HX0.out).1; omega)
          have hym := rk_mem HX0.out (List.mem_of_getElem? hy)
          obtain ⟨o, rfl⟩ : ∃ o : Nat, y = o := ⟨y.toNat, by omega⟩
          have ho : o < n := by omega
          obtain ⟨p, hp, hpl, hpa, hpu⟩ := place_at HX0.out ho
          have hpm : p = m := (hpu m hy).symm
          rw [hpm] at hpl hpa
          have hoth : ∀ o', o' < n → o' ≠ o → scoT f vs k x (m + 1) o' = scoT f vs k x m o' := fun o' ho' hne => by
            obtain ⟨p', _, hpl', hpa', _⟩ := place_at HX0.out ho'
            have hne2 : p' ≠ m := fun e => by rw [e, hy] at hpa'; injection hpa' with h; omega
            unfold scoT
            rw [hpl']
            by_cases h1 : p' < m
            · rw [if_pos (by omega), if_pos (by omega)]
            · rw [if_neg (by omega), if_neg (by omega)]
          have hat : scoT f vs k x m o = scoV f (vs.take k) o := by unfold scoT; rw [hpl, if_neg (by omega)]; simp
          have hnx : scoT f vs k x (m + 1) o = scoV f (vs.take k) o + x.2 * f m := by unfold scoT; rw [hpl, if_pos (by omega)]; simp
          obtain ⟨b2, off2, rfl, d2⟩ := (hRx.ext hwr2).at_ hy
          obtain ⟨b3, off3, rfl, d3⟩ := (hW0.ext hwr2).at_ (rowL_at (f := f) hmt)
          have d4 := hB.cell o ho
          rw [hat] at d4
          have z4 := hB.fr o
          obtain ⟨s1, s2⟩ := scoV_bd HS.out HF.out o k hk
          obtain ⟨s3, s4⟩ := wf_bd HF.out x1 x2 m
          have y1 : wrap64 (x.2 * f m) = x.2 * f m := IntWalk.wrap64_in _ (by omega)
          have y2 : IntKind.i64.wrap (x.2 * f m) = x.2 * f m := IntWalk.i64_in _ (by omega)
          have y3 : wrap64 (scoV f (vs.take k) o + x.2 * f m) = scoT f vs k x (m + 1) o := by rw [IntWalk.wrap64_in _ (by omega), hnx]
          have y4 : IntKind.i64.wrap (scoV f (vs.take k) o + x.2 * f m) = scoT f vs k x (m + 1) o := by rw [IntWalk.i64_left]; exact y3
          have HO := hide hoth
          have HB := hide hB
          clear hoth hB hat hnx hpl hpa hpu hpm s1 s2 s3 s4 hy hym
          go_wp2
          refine wp_region_X (by kernel_rfl) (by kernel_rfl) ?_
          repeat' (refine wpX_stepQ (fun K hK => ?_)
                   go_simp
                   try (rw [if_neg (by intro h; simp [undef] at h)])
                   try split
                   all_goals
                     first
                     | (refine hK _ ?_
                        clear hK K)
                     | (apply Exists.intro
                        refine ⟨fun wq hwq => ?_, hK _ ?_⟩
                        · have hcq := hwq.cellS
                          go_simp
                          first
                          | exact ⟨Ext.refl _, rfl⟩
                        clear hK K))
          refine wpX_stepL rfl (by kernel_rfl) (by kernel_rfl) (by kernel_rfl) (fun K hK wz hwz => ?_)
          have hcz := hwz.cellS
          have hfz := hwz.frozenS
          go_simp
          refine hK _ _ ?_
          clear hK K
          go_wp2
          refine ⟨⟨m + 1, by omega, by go_num, ((HB.out.ext hwz).set o ho _).congr (fun o' ho' => ?_), Ext.setCell (hwr2.trans hwz) (Nat.le_refl _) _, ?_⟩, by simp [intOf]; omega⟩
          · by_cases e : o' = o
            · subst e; rw [if_pos rfl]
            · rw [if_neg e, HO.out o' ho' e]
          · rw [World.cell?_setCell_other _ _ _ _ (by simp only [ne_eq, Addr.mk.injEq, not_and]; omega)]
            exact hwz.keep e1
        · have hmn : m = n := by omega
          go_wp2
          refine ⟨⟨k + 1, by omega, by go_num, hB.congr (fun o ho => ?_), hwr2⟩, by simp [intOf]; omega⟩
          obtain ⟨p, hp, hpl, _⟩ := place_at HX0.out ho
          rw [scoV_at HX.out, hmn]
          unfold scoT
          rw [hpl, if_pos (by omega)]
    · have hkl : k = vs.length := by omega
      go_wp2
      go_ret
      refine ⟨_, rfl, hB.wrI (rowL_len _ _) (fun j x hx => ?_) hw.size (Nat.le_refl _), hw.trans hwr⟩
      obtain ⟨hj, rfl⟩ := rowL_val hx
      rw [hkl, List.take_length]

set_option maxRecDepth 100000 in
theorem BlkF.setCells {g n : Nat} : ∀ (cs : List Value) (w : World) (f : Nat → Value) (o : Nat), BlkF w g n f → o + cs.length ≤ n →
    BlkF (w.setCells g o cs) g n (fun x => if o ≤ x ∧ x < o + cs.length then cs.getD (x - o) undef else f x)
  | [], w, f, o, h, _ => by
    refine BlkF.congr (f := f) h (fun x _ => ?_)
    have h0 : ¬ (o ≤ x ∧ x < o + ([] : List Value).length) := by simp only [List.length_nil]; omega
    rw [if_neg h0]
  | c :: cs, w, f, o, h, ho => by
    simp only [List.length_cons] at ho
    have h1 := BlkF.setCells cs _ _ (o + 1) (h.set o (by omega) c) (by omega)
    refine BlkF.congr (w := w.setCells g o (c :: cs)) h1 (fun x hx => ?_)
    simp only [List.length_cons]
    by_cases e : x = o
    · subst e
      have e1 : ¬ (x + 1 ≤ x ∧ x < x + 1 + cs.length) := by omega
      have e2 : x ≤ x ∧ x < x + (cs.length + 1) := by omega
      rw [if_neg e1, if_pos rfl, if_pos e2, Nat.sub_self]
      rfl
    · by_cases e2 : o + 1 ≤ x ∧ x < o + 1 + cs.length
      · have e3 : o ≤ x ∧ x < o + (cs.length + 1) := by omega
        rw [if_pos e2, if_pos e3]
        obtain ⟨k, hk⟩ : ∃ k, x - o = k + 1 := ⟨x - o - 1, by omega⟩
        rw [hk, show x - (o + 1) = k by omega]
        simp
      · have e3 : ¬ (o ≤ x ∧ x < o + (cs.length + 1)) := by omega
        rw [if_neg e2, if_neg e3, if_neg e]
set_option maxRecDepth 100000 in
theorem Ext.setCells {W : World} {g : Nat} (hg : W.heap.size ≤ g) : ∀ (cs : List Value) (w : World) (o : Nat), Ext W w → Ext W (w.setCells g o cs)
  | [], _, _, h => h
  | c :: cs, _, o, h => Ext.setCells hg cs _ (o + 1) (h.setCell hg c)

set_option maxRecDepth 100000 in
theorem run_copyB (w : World) (ty : TypeId) (g n o dLen dCap : Nat) (f : Nat → Value) (hB : BlkF w g n f) (a : Addr) (sLen sCap : Nat) (v : Int) (m : Nat) (hm : m = Nat.min sLen dLen) (ho : o + m ≤ n)
    (hsrc : ∀ j, j < m → w.cell? (a.add j) = some (.int .i64 v)) :
    (Builtin.copy_ #[31, 31] ty #[.slice (some ⟨g, o, none⟩) dLen dCap, .slice (some a) sLen sCap]).run Try.prog w = .ok (goInt m) (w.setCells g o (List.replicate m (.int .i64 v))) := by
  obtain ⟨i0, hi, hz0, hz1, hz2⟩ := info_parts info_int
  have h := run_copy_cells (P := Try.prog) w 31 31 ty 3 g o dLen dCap a sLen sCap (List.replicate m (.int .i64 v)) Try.underlying31 (by rw [hi]; simp [hz1]) (by simp [hm])
    (fun j u hj => by
      rw [List.getElem?_replicate] at hj
      split at hj
      · injection hj with hj; rw [← hj]; exact hsrc j (by assumption)
      · cases hj)
    (fun j hj => by rw [List.length_replicate] at hj; rw [hB.cell _ (by omega)]; rfl)
    (fun j _ => hB.fr _)
    (fun u hu => by rw [List.eq_of_mem_replicate hu]; rfl)
  rw [List.length_replicate] at h
  exact h
set_option maxRecDepth 100000 in
theorem oper_copyB {o : Oper} {a : Act} {w : World} {K : World → Act → Prop} (d s : Operand)
    (ho : o.op = .call { callee := .builtin .copy, args := #[d, s], argTypes := #[31, 31] }) (g n off dLen dCap : Nat) (f : Nat → Value) (hB : BlkF w g n f) (ad : Addr) (sLen sCap : Nat) (v : Int) (m : Nat)
    (hd : a.eval d = .slice (some ⟨g, off, none⟩) dLen dCap) (hs : a.eval s = .slice (some ad) sLen sCap) (hm : m = Nat.min sLen dLen) (hoff : off + m ≤ n)
    (hsrc : ∀ j, j < m → w.cell? (ad.add j) = some (.int .i64 v))
    (h : K (w.setCells g off (List.replicate m (.int .i64 v))) (a.put o.dst (.int .i64 (m : Int)))) : o.wp Try.prog a w (fun a' w' => K w' a') NoExit := by
  have hrun := run_copyB w o.type g n off dLen dCap f hB ad sLen sCap v m hm hoff hsrc
  unfold Oper.wp
  simp [execOp, ho, resolve, invoke, builtin, hd, hs, hrun, Result.andThen]
  exact h

end Go.Proofs.Ytkbbcglghfddjaa
