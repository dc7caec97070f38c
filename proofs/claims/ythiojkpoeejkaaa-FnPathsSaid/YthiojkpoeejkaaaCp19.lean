/- Transitivity of the beats relation. Copeland's scores. Counts as sums (plain law). What FnPairs says of a profile (plain law). Eliminations of the reference, and those of the three rules. -/
import Derived.Test.YthiojkpoeejkaaaCp5
import Derived.Test.YthiojkpoeejkaaaCp6
import Derived.Test.YthiojkpoeejkaaaCp17
import Derived.Test.YthiojkpoeejkaaaCp18
import Derived.Test.YthiojkpoeejkaaaCp8
namespace Go.Proofs.Ythiojkpoeejkaaa
open Go.RowKit

def transC (vs : List Vt) (a b c : Nat) : Bool := !(beatsV vs a b && (beatsV vs b c && !beatsV vs a c))
def transB (n : Nat) (vs : List Vt) (a b : Nat) : Bool := allN n (transC vs a b)
def transA (n : Nat) (vs : List Vt) (a : Nat) : Bool := allN n (transB n vs a)
def transO (sz : Int) (vs : List Vt) : Bool := profOk sz vs && allN sz.toNat (transA sz.toNat vs)
set_option maxRecDepth 100000 in
theorem trans_no {n : Nat} {vs : List Vt} {a b c : Nat} (ha : a < n) (hb : b < n) (hc : c < n) (h : transC vs a b c = false) : allN n (transA n vs) = false :=
  allN_f ha (allN_f hb (allN_f hc h))

set_option maxRecDepth 100000 in
set_option maxHeartbeats 4000000 in
theorem trans_impl (w : World) (sz : Int) (a : Option Addr) (c : Nat) (vs : List Vt) (hR : RdV w a vs) :
    Calls Try.prog 57 #[.agg #[.int .i64 sz, .slice a vs.length c]] w fun e w' => e = .returned (.bool (transO sz vs)) ∧ Ext w w' := by
  have q0 := new0 w (.int .i64 sz) [.slice a vs.length c] 47
  have q1 := new1 w (.int .i64 sz) (.slice a vs.length c) [] 47
  cases h0 : profOk sz vs
  · go_enter Try.func57, Try.ntmps57
    go_wp2_with (go_at_call 35; refine (prof_impl _ _ _ _ _ (hR.ext (by repeat (first | exact Ext.refl _ | assumption | refine Ext.alloc ?_ _ | refine Ext.drew ?_ | refine Ext.trans ?_ (by assumption))))).mono ?_; rintro e w1 ⟨rfl, hw1⟩; have q0 := Ext.keep (w' := w1) (by repeat (first | exact Ext.refl _ | assumption | refine Ext.alloc ?_ _ | refine Ext.drew ?_ | refine Ext.trans ?_ (by assumption))) q0; have q1 := Ext.keep (w' := w1) (by repeat (first | exact Ext.refl _ | assumption | refine Ext.alloc ?_ _ | refine Ext.drew ?_ | refine Ext.trans ?_ (by assumption))) q1)
    go_ret
    exact ⟨ret_bool (by simp [transO, h0]), (by repeat (first | exact Ext.refl _ | assumption | refine Ext.alloc ?_ _ | refine Ext.drew ?_ | refine Ext.trans ?_ (by assumption)))⟩
  obtain ⟨n, rfl, n1, n2⟩ := prof_nat h0
  have HS := hide (prof_small h0)
  go_enter Try.func57, Try.ntmps57
  go_wp2_with (go_at_call 35; refine (prof_impl _ _ _ _ _ (hR.ext (by repeat (first | exact Ext.refl _ | assumption | refine Ext.alloc ?_ _ | refine Ext.drew ?_ | refine Ext.trans ?_ (by assumption))))).mono ?_; rintro e w1 ⟨rfl, hw1⟩; have q0 := Ext.keep (w' := w1) (by repeat (first | exact Ext.refl _ | assumption | refine Ext.alloc ?_ _ | refine Ext.drew ?_ | refine Ext.trans ?_ (by assumption))) q0; have q1 := Ext.keep (w' := w1) (by repeat (first | exact Ext.refl _ | assumption | refine Ext.alloc ?_ _ | refine Ext.drew ?_ | refine Ext.trans ?_ (by assumption))) q1)
  obtain ⟨W0, rfl⟩ : ∃ W0 : World, W0 = w1 := ⟨_, rfl⟩
  have hw : Ext w W0 := (by repeat (first | exact Ext.refl _ | assumption | refine Ext.alloc ?_ _ | refine Ext.drew ?_ | refine Ext.trans ?_ (by assumption)))
  have hR0 := hR.ext hw
  go_loopw [3, 4, 5, 11, 15, 16, 20, 21] (fun _ _ _ i _ _ _ _ wr => ∃ k : Nat, k ≤ n ∧ i = .int .i64 k ∧ Hid (∀ j, j < k → transA n vs j = true) ∧ Ext W0 wr) (fun _ _ _ i _ _ _ _ _ => n - (intOf i).toNat)
  case atStart => exact ⟨0, Nat.zero_le _, rfl, fun j hj => absurd hj (by omega), Ext.refl _⟩
  case round =>
    obtain ⟨i, hi, rfl, hallA, hwr⟩ := hrel
    have q0' := hwr.keep q0
    by_cases hit : i < n
    · go_wp2
      go_loopw [4, 5, 16, 20, 21] (fun _ _ m _ _ wr => ∃ k : Nat, k ≤ n ∧ m = .int .i64 k ∧ Hid (∀ j, j < k → transB n vs i j = true) ∧ Ext W0 wr) (fun _ _ m _ _ _ => n - (intOf m).toNat)
      case atStart => exact ⟨0, Nat.zero_le _, rfl, fun j hj => absurd hj (by omega), hwr⟩
      case round =>
        clear hwr q0'
        obtain ⟨j, hj, rfl, hallB, hwr⟩ := hrel
        have q0' := hwr.keep q0
        by_cases hjt : j < n
        · go_wp2
          go_loopw [5, 21] (fun _ m wr => ∃ k : Nat, k ≤ n ∧ m = .int .i64 k ∧ Hid (∀ l, l < k → transC vs i j l = true) ∧ Ext W0 wr) (fun _ m _ => n - (intOf m).toNat)
          case atStart => exact ⟨0, Nat.zero_le _, rfl, fun j hj => absurd hj (by omega), hwr⟩
          case round =>
            clear hwr q0'
            obtain ⟨k, hk, rfl, hallC, hwr⟩ := hrel
            have q0' := hwr.keep q0
            have q1' := hwr.keep q1
            by_cases hlt : k < n
            · cases h1 : beatsV vs i j <;> cases h2 : beatsV vs j k <;> cases h3 : beatsV vs i k
              all_goals go_wp2_with (go_at_call 138; refine (beats_impl _ _ _ _ _ _ _ (hR0.ext (by repeat (first | exact Ext.refl _ | assumption | refine Ext.alloc ?_ _ | refine Ext.drew ?_ | refine Ext.trans ?_ (by assumption)))) HS.out).mono ?_; rintro e w1 ⟨rfl, hw1⟩; have q0' := Ext.keep (w' := w1) (by repeat (first | exact Ext.refl _ | assumption | refine Ext.alloc ?_ _ | refine Ext.drew ?_ | refine Ext.trans ?_ (by assumption))) q0'; have q1' := Ext.keep (w' := w1) (by repeat (first | exact Ext.refl _ | assumption | refine Ext.alloc ?_ _ | refine Ext.drew ?_ | refine Ext.trans ?_ (by assumption))) q1')
              rotate_left 6
              · go_ret
                exact ⟨ret_bool (by simp [transO, trans_no (vs := vs) hit hjt hlt (by simp [transC, h1, h2, h3])]), (by repeat (first | exact Ext.refl _ | assumption | refine Ext.alloc ?_ _ | refine Ext.drew ?_ | refine Ext.trans ?_ (by assumption)))⟩
              all_goals exact ⟨⟨k + 1, by omega, by go_num, upto_succ hallC.out (by simp [transC, h1, h2, h3]), (by repeat (first | exact Ext.refl _ | assumption | refine Ext.alloc ?_ _ | refine Ext.drew ?_ | refine Ext.trans ?_ (by assumption)))⟩, by simp [intOf]; omega⟩
            · go_wp2
              exact ⟨⟨j + 1, by omega, by go_num, upto_succ hallB.out (allN_t fun l hl => hallC.out l (by omega)), (by repeat (first | exact Ext.refl _ | assumption | refine Ext.alloc ?_ _ | refine Ext.drew ?_ | refine Ext.trans ?_ (by assumption)))⟩, by simp [intOf]; omega⟩
        · go_wp2
          exact ⟨⟨i + 1, by omega, by go_num, upto_succ hallA.out (allN_t fun l hl => hallB.out l (by omega)), (by repeat (first | exact Ext.refl _ | assumption | refine Ext.alloc ?_ _ | refine Ext.drew ?_ | refine Ext.trans ?_ (by assumption)))⟩, by simp [intOf]; omega⟩
    · go_wp2
      go_ret
      exact ⟨ret_bool (by simp [transO, h0, allN_t (n := n) (p := transA n vs) (fun j hj => hallA.out j (by omega))]), (by repeat (first | exact Ext.refl _ | assumption | refine Ext.alloc ?_ _ | refine Ext.drew ?_ | refine Ext.trans ?_ (by assumption)))⟩

def copeV (n : Nat) (vs : List Vt) (i : Nat) : Int := (cntN n (bt vs i) : Nat) - (cntN n (fun j => bt vs j i) : Nat)
def copeO (sz : Int) (vs : List Vt) : List Int := if profOk sz vs then rowL sz.toNat (copeV sz.toNat vs) else []
set_option maxRecDepth 100000 in
theorem copeO_len (sz : Int) (vs : List Vt) : (copeO sz vs).length ≤ 5 := by
  unfold copeO
  cases h0 : profOk sz vs
  · simp
  · obtain ⟨n, rfl, n1, n2⟩ := prof_nat h0
    simp [rowL_len]; omega

def sgnI (x y : Int) : Int := if x < y then -1 else if y < x then 1 else 0
set_option maxRecDepth 100000 in
set_option maxHeartbeats 1000000 in
theorem isnan_impl (w : World) (x : Int) : Calls Try.prog 183 #[.int .i64 x] w fun e w' => e = .returned (.bool false) ∧ Ext w w' := by
  go_enter Try.func183, Try.ntmps183
  go_wp2
  go_ret
  exact ⟨ret_bool (by simp), Ext.refl _⟩
set_option maxRecDepth 100000 in
set_option maxHeartbeats 1000000 in
theorem cmp_impl (w : World) (x y : Int) : Calls Try.prog 104 #[.int .i64 x, .int .i64 y] w fun e w' => e = .returned (.int .i64 (sgnI x y)) ∧ Ext w w' := by
  by_cases h1 : x < y
  · go_enter Try.func104, Try.ntmps104
    go_wp2_with (go_at_call 183; refine (isnan_impl _ _).mono ?_; rintro e w1 ⟨rfl, hw1⟩)
    go_ret
    exact ⟨ret_int (by simp [sgnI, h1]), (by repeat (first | exact Ext.refl _ | assumption | refine Ext.alloc ?_ _ | refine Ext.drew ?_ | refine Ext.trans ?_ (by assumption)))⟩
  · by_cases h2 : y < x
    · go_enter Try.func104, Try.ntmps104
      go_wp2_with (go_at_call 183; refine (isnan_impl _ _).mono ?_; rintro e w1 ⟨rfl, hw1⟩)
      go_ret
      exact ⟨ret_int (by simp [sgnI, h1, h2]), (by repeat (first | exact Ext.refl _ | assumption | refine Ext.alloc ?_ _ | refine Ext.drew ?_ | refine Ext.trans ?_ (by assumption)))⟩
    · go_enter Try.func104, Try.ntmps104
      go_wp2_with (go_at_call 183; refine (isnan_impl _ _).mono ?_; rintro e w1 ⟨rfl, hw1⟩)
      go_ret
      exact ⟨ret_int (by unfold sgnI; rw [if_neg (by omega), if_neg (by omega)]), (by repeat (first | exact Ext.refl _ | assumption | refine Ext.alloc ?_ _ | refine Ext.drew ?_ | refine Ext.trans ?_ (by assumption)))⟩

set_option maxRecDepth 100000 in
theorem sgn_margin (vs : List Vt) (i j : Nat) : sgnI (marginV vs i j) 0 = (if bt vs i j then 1 else 0) - (if bt vs j i then 1 else 0) := by
  unfold sgnI bt beatsV marginV
  by_cases h1 : pairV vs i j < pairV vs j i
  · have h2 : ¬ pairV vs j i < pairV vs i j := by omega
    rw [if_pos (by omega)]; simp [h1, h2]
  · by_cases h2 : pairV vs j i < pairV vs i j
    · rw [if_neg (by omega), if_pos (by omega)]; simp [h1, h2]
    · rw [if_neg (by omega), if_neg (by omega)]; simp [h1, h2]
set_option maxRecDepth 100000 in
theorem copeV_succ (m : Nat) (vs : List Vt) (i : Nat) : copeV (m + 1) vs i = copeV m vs i + sgnI (marginV vs i m) 0 := by
  unfold copeV
  rw [sgn_margin, cntN_succ, cntN_succ]
  cases bt vs i m <;> cases bt vs m i <;> simp <;> omega
set_option maxRecDepth 100000 in
theorem copeV_bd (m : Nat) (vs : List Vt) (i : Nat) : -(m : Int) ≤ copeV m vs i ∧ copeV m vs i ≤ m := by
  have h1 := cntN_le m (bt vs i)
  have h2 := cntN_le m (fun j => bt vs j i)
  unfold copeV
  omega
def tabC (n : Nat) (vs : List Vt) (i m o : Nat) : Int := if o < i then copeV n vs o else if o = i then copeV m vs i else 0
set_option maxRecDepth 100000 in
theorem tabC_zero (n : Nat) (vs : List Vt) (o : Nat) : tabC n vs 0 0 o = 0 := by
  unfold tabC; rw [if_neg (by omega)]; split <;> simp [copeV, cntN]
set_option maxRecDepth 100000 in
theorem tabC_at (n : Nat) (vs : List Vt) (i m : Nat) : tabC n vs i m i = copeV m vs i := by
  unfold tabC; rw [if_neg (by omega), if_pos rfl]
set_option maxRecDepth 100000 in
theorem tabC_far (n : Nat) (vs : List Vt) (i m m' : Nat) {o : Nat} (h : o ≠ i) : tabC n vs i m o = tabC n vs i m' o := by
  unfold tabC; rw [if_neg h, if_neg h]
set_option maxRecDepth 100000 in
theorem tabC_done (n : Nat) (vs : List Vt) (i o : Nat) : tabC n vs i n o = tabC n vs (i + 1) 0 o := by
  unfold tabC
  by_cases h1 : o < i
  · rw [if_pos h1, if_pos (by omega)]
  · by_cases h2 : o = i
    · subst h2; rw [if_neg h1, if_pos rfl, if_pos (by omega)]
    · rw [if_neg h1, if_neg h2, if_neg (by omega)]; split <;> simp [copeV, cntN]

set_option maxRecDepth 100000 in
set_option maxHeartbeats 4000000 in
theorem cope_impl (w : World) (sz : Int) (a : Option Addr) (c : Nat) (vs : List Vt) (hR : RdV w a vs) :
    Calls Try.prog 52 #[.agg #[.int .i64 sz, .slice a vs.length c]] w fun e w' => ∃ v, e = .returned v ∧ WrI w' w.heap.size v (copeO sz vs) ∧ Ext w w' := by
  have q0 := new0 w (.int .i64 sz) [.slice a vs.length c] 47
  have q1 := new1 w (.int .i64 sz) (.slice a vs.length c) [] 47
  cases h0 : profOk sz vs
  · go_enter Try.func52, Try.ntmps52
    go_wp2_with (go_at_call 35; refine (prof_impl _ _ _ _ _ (hR.ext (by repeat (first | exact Ext.refl _ | assumption | refine Ext.alloc ?_ _ | refine Ext.drew ?_ | refine Ext.trans ?_ (by assumption))))).mono ?_; rintro e w1 ⟨rfl, hw1⟩; have q0 := Ext.keep (w' := w1) (by repeat (first | exact Ext.refl _ | assumption | refine Ext.alloc ?_ _ | refine Ext.drew ?_ | refine Ext.trans ?_ (by assumption))) q0; have q1 := Ext.keep (w' := w1) (by repeat (first | exact Ext.refl _ | assumption | refine Ext.alloc ?_ _ | refine Ext.drew ?_ | refine Ext.trans ?_ (by assumption))) q1)
    go_ret
    exact ⟨_, rfl, by simp [copeO, h0]; exact WrI.nil _ _ _ _, (by repeat (first | exact Ext.refl _ | assumption | refine Ext.alloc ?_ _ | refine Ext.drew ?_ | refine Ext.trans ?_ (by assumption)))⟩
  obtain ⟨n, rfl, n1, n2⟩ := prof_nat h0
  have HS := hide (prof_small h0)
  obtain ⟨i0, hi, hz0, hz1, hz2⟩ := info_parts info_int
  have hmk := fun W => run_make_rowN (P := Try.prog) 29 3 i0 _ Try.underlying29 hi hz0 .i64 .i64 n n (Nat.le_refl _) (by rw [hz2]; omega) (by omega) W
  rw [hz1, Nat.mul_one] at hmk
  go_enter Try.func52, Try.ntmps52
  go_wp2_with (go_at_call 35; refine (prof_impl _ _ _ _ _ (hR.ext (by repeat (first | exact Ext.refl _ | assumption | refine Ext.alloc ?_ _ | refine Ext.drew ?_ | refine Ext.trans ?_ (by assumption))))).mono ?_; rintro e w1 ⟨rfl, hw1⟩; have q0 := Ext.keep (w' := w1) (by repeat (first | exact Ext.refl _ | assumption | refine Ext.alloc ?_ _ | refine Ext.drew ?_ | refine Ext.trans ?_ (by assumption))) q0; have q1 := Ext.keep (w' := w1) (by repeat (first | exact Ext.refl _ | assumption | refine Ext.alloc ?_ _ | refine Ext.drew ?_ | refine Ext.trans ?_ (by assumption))) q1)
  clear hmk
  have hw : Ext w w1 := (by repeat (first | exact Ext.refl _ | assumption | refine Ext.alloc ?_ _ | refine Ext.drew ?_ | refine Ext.trans ?_ (by assumption)))
  have hR0 := hR.ext hw
  have hB := BlkF.new w1 (madeCells #[.int .i64 0] n) 3
  rw [size_madeCells] at hB
  have hB := hB.congr (f' := fun o => .int .i64 (tabC n vs 0 0 o)) (fun o ho => by rw [tabC_zero]; exact made_int n o ho)
  have h20 := Ext.new w1 (.cells (madeCells #[.int .i64 0] n) 3)
  generalize w1.alloc (.cells (madeCells #[.int .i64 0] n) 3) = W0 at hB h20 ⊢
  obtain ⟨wb, hwb⟩ : ∃ wb : World, wb = w1 := ⟨_, rfl⟩
  subst hwb
  go_loopw [4, 5, 14, 18, 19] (fun _ _ i _ _ wr => ∃ k : Nat, k ≤ n ∧ i = .int .i64 k ∧ BlkF wr wb.heap.size n (fun o => .int .i64 (tabC n vs k 0 o)) ∧ Ext wb wr) (fun _ _ i _ _ _ => n - (intOf i).toNat)
  case atStart => exact ⟨0, Nat.zero_le _, rfl, hB, h20⟩
  case round =>
    clear hB h20
    obtain ⟨i, hi, rfl, hB, hwr⟩ := hrel
    have r0 := hwr.keep q0
    by_cases hit : i < n
    · go_wp2
      go_loopw [5, 19] (fun _ m wr => ∃ k : Nat, k ≤ n ∧ m = .int .i64 k ∧ BlkF wr wb.heap.size n (fun o => .int .i64 (tabC n vs i k o)) ∧ Ext wb wr) (fun _ m _ => n - (intOf m).toNat)
      case atStart => exact ⟨0, Nat.zero_le _, rfl, hB, hwr⟩
      case round =>
        clear hB hwr r0
        obtain ⟨m, hm, rfl, hB, hwr⟩ := hrel
        have r0 := hwr.keep q0
        have r1 := hwr.keep q1
        by_cases hlt : m < n
        · have d0 := hB.cell i hit
          rw [tabC_at] at d0
          have z0 := hB.fr i
          have b1 := copeV_bd m vs i
          have b2 := copeV_bd (m + 1) vs i
          have y1 : wrap64 (copeV m vs i + sgnI (marginV vs i m) 0) = copeV (m + 1) vs i := by rw [← copeV_succ, IntWalk.wrap64_in _ (by omega)]
          have y2 : IntKind.i64.wrap (copeV m vs i + sgnI (marginV vs i m) 0) = copeV (m + 1) vs i := by rw [IntWalk.i64_left]; exact y1
          clear b1 b2
          have HB := hide hB
          clear hB
          go_wp2
          refine wp_region_X (by kernel_rfl) (by kernel_rfl) ?_
          repeat' (refine wpX_stepQ (fun K hK => ?_)
                   go_simp
                   try (rw [if_neg (by intro h; simp [undef] at h)])
                   try split
                   all_goals
                     first
                     | (refine hK _ ?_
                        clear hK K)
                     | (apply Exists.intro
                        refine ⟨fun wq hwq => ?_, hK _ ?_⟩
                        · have hcq := hwq.cellS
                          go_simp
                          first
                          | exact ⟨Ext.refl _, rfl⟩
                          | exact ⟨Ext.refl _, margin_impl _ _ _ _ _ _ _ (hR0.ext (by repeat (first | exact Ext.refl _ | assumption | refine Ext.alloc ?_ _ | refine Ext.drew ?_ | refine Ext.trans ?_ (by assumption)))) HS.out⟩
                          | exact ⟨Ext.refl _, cmp_impl _ _ _⟩
                        clear hK K))
          refine wpX_stepL rfl (by kernel_rfl) (by kernel_rfl) (by kernel_rfl) (fun K hK wz hwz => ?_)
          have hcz := hwz.cellS
          have hfz := hwz.frozenS
          go_simp
          refine hK _ _ ?_
          clear hK K
          go_wp2
          refine ⟨⟨m + 1, by omega, by go_num, ((HB.out.ext hwz).set i hit _).congr (fun o _ => ?_), Ext.setCell (Ext.trans hwr hwz) (Nat.le_refl _) _⟩, by simp [intOf]; omega⟩
          by_cases e : o = i
          · subst e; rw [if_pos rfl, tabC_at]
          · rw [if_neg e, tabC_far n vs i m (m + 1) e]
        · have hmn : m = n := by omega
          go_wp2
          exact ⟨⟨i + 1, by omega, by go_num, hB.congr (fun o _ => by rw [hmn, tabC_done]), hwr⟩, by simp [intOf]; omega⟩
    · have hin : i = n := by omega
      go_wp2
      go_ret
      have he : copeO n vs = rowL n (copeV n vs) := by simp [copeO, h0]
      rw [he]
      refine ⟨_, rfl, hB.wrI (rowL_len _ _) (fun j x hx => ?_) hw.size (Nat.le_refl _), hw.trans hwr⟩
      obtain ⟨hj, rfl⟩ := rowL_val hx
      simp only [tabC, hin, if_pos hj]

set_option maxRecDepth 100000 in
theorem cntN_sg (q : Nat → Bool) : ∀ n, ((cntN n q : Nat) : Int) = sgN (fun j => if q j then 1 else 0) n
  | 0 => by simp [cntN, sgN]
  | n + 1 => by
    rw [cntN_succ, sgN, ← cntN_sg q n]
    cases q n <;> simp
set_option maxRecDepth 100000 in
theorem sgN_sub (f g : Nat → Int) : ∀ n, sgN (fun i => f i - g i) n = sgN f n - sgN g n
  | 0 => rfl
  | n + 1 => by rw [sgN, sgN, sgN, sgN_sub f g n]; omega

set_option maxRecDepth 100000 in
/-- Won and lost comparisons are as many. -/
theorem cope_sum (n : Nat) (vs : List Vt) : sgN (copeV n vs) n = 0 := by
  have e : sgN (copeV n vs) n = sgN (fun i => sgN (fun j => if bt vs i j then 1 else 0) n) n - sgN (fun i => sgN (fun j => if bt vs j i then 1 else 0) n) n := by
    rw [← sgN_sub]
    refine sgN_congr (fun i _ => ?_)
    unfold copeV
    rw [cntN_sg, cntN_sg]
  rw [e, sgN_swap (fun i j => if bt vs i j then (1 : Int) else 0)]
  omega
set_option maxRecDepth 100000 in
theorem cope_win {n : Nat} {vs : List Vt} {w : Nat} (hw : w < n) (hb : ∀ j, j < n → j ≠ w → bt vs w j = true) : copeV n vs w = (n : Int) - 1 := by
  unfold copeV
  have h1 : cntN n (bt vs w) = n - 1 := (full_those hw (bt_self vs w)).2 (those_iff.2 hb)
  have h2 : cntN n (fun j => bt vs j w) = 0 := cntN_none.2 (allN_t fun j hj => by
    by_cases e : j = w
    · rw [e, bt_self]; rfl
    · rw [bt_anti vs _ _ (hb j hj e)]; rfl)
  rw [h1, h2]
  omega
structure PaiF (n : Nat) (vs : List Vt) : Prop where
  top : 1 ≤ (topO n vs).length
  unc : 1 ≤ (uncO n vs).length
  win : (∃ w : Nat, w < n ∧ winnerO n vs = w ∧ topO n vs = [(w : Int)] ∧ copeV n vs w = (n : Int) - 1) ∨ (winnerO n vs = -1 ∧ (topO n vs).length ≠ 1)
  sub : ∀ x ∈ uncO n vs, x ∈ topO n vs
  unb : ∀ x ∈ unbO n vs, x ∈ topO n vs
  dom : ∀ a : Nat, a < n → (a : Int) ∉ topO n vs → ∀ x ∈ topO n vs, beatsV vs x a = true
  mem : ∀ x ∈ topO n vs, 0 ≤ x ∧ x < n
  cov : ∀ a : Nat, a < n → ∀ x ∈ uncO n vs, coversV n vs a x = false
set_option maxRecDepth 100000 in
theorem pai_f {n : Nat} {vs : List Vt} (h0 : profOk n vs = true) : PaiF n vs := by
  have hsz := prof_size h0
  have n5 : n ≤ 5 := by omega
  obtain ⟨s, h⟩ := top_f h0
  refine ⟨h.pos n5, ?_, ?_, fun x hx => h.unc h0 hx, fun x hx => h.unb h0 hx, fun a ha hn x hx => ?_, fun x hx => ?_, fun a ha x hx => ?_⟩
  · obtain ⟨x, hx⟩ := unc_some h0
    exact List.length_pos_of_mem hx
  · rcases win_cases h0 with ⟨w, hw, e, hb⟩ | ⟨e, hno⟩
    · exact .inl ⟨w, hw, e, h.win n5 hw hb, cope_win hw hb⟩
    · refine .inr ⟨e, fun h1 => ?_⟩
      obtain ⟨w, hw, hb⟩ := h.sole h1
      exact hno w hw hb
  · obtain ⟨i, hi, hb, rfl⟩ := h.mem.1 hx
    rw [h.memN ha] at hn
    exact h.dom i a hi ha hb (by simpa using hn)
  · obtain ⟨i, hi, _, rfl⟩ := h.mem.1 hx
    omega
  · obtain ⟨i, hi, rfl, hu⟩ := (unc_eq h0).1 hx
    by_cases e : a = i
    · rw [e]
      cases hq : coversV n vs i i
      · rfl
      · have := (cov_iff.1 hq).1
        rw [bt_self] at this
        cases this
    · exact hu a ha e
/-- A ranking in which each beats all behind it. -/
structure MjF (n : Nat) (vs : List Vt) : Prop where
  rk : rkOk n (mjL n vs) = true
  fst : (mjL n vs)[0]? = some (winnerO n vs)
  tr : transO n vs = true
  lst : (mjL n vs)[n - 1]? = some (loserO n vs)
set_option maxRecDepth 100000 in
theorem mj_pair {n : Nat} {vs : List Vt} (h0 : profOk n vs = true) (h : mjB n vs = true) : rkOk n (mjL n vs) = true ∧ (mjL n vs).Pairwise (fun x y => beatsV vs x y = true) := by
  have hsz := prof_size h0
  unfold mjB at h
  rw [if_pos h0, Int.toNat_natCast] at h
  obtain ⟨r, hr⟩ := Option.isSome_iff_exists.1 h
  have e : mjL n vs = r := by unfold mjL; rw [if_pos h0, Int.toNat_natCast, hr]; rfl
  rw [e]
  unfold mjO at hr
  exact ⟨(allO_mem (by omega) (by omega)).1 (List.mem_of_find?_eq_some hr), mjOk_iff.1 (List.find?_some hr)⟩
set_option maxRecDepth 100000 in
theorem pw_lt {R : Int → Int → Prop} {xs : List Int} (h : xs.Pairwise R) {i j : Nat} {x y : Int} (hij : i < j) (hx : xs[i]? = some x) (hy : xs[j]? = some y) : R x y := by
  have l1 := lt_of_at hx
  have l2 := lt_of_at hy
  have := List.pairwise_iff_getElem.1 h i j l1 l2 hij
  rw [List.getElem?_eq_getElem l1] at hx
  rw [List.getElem?_eq_getElem l2] at hy
  injection hx with hx
  injection hy with hy
  rw [← hx, ← hy]
  exact this
set_option maxRecDepth 100000 in
theorem only_one {n : Nat} {vs : List Vt} (h0 : profOk n vs = true) {p : Nat → Nat → Bool} (ha : ∀ i j, p i j = true → p j i = false) {w : Nat} (hw : w < n) (hb : ∀ j, j < n → j ≠ w → p w j = true) : onlyL (thoseO n vs p) = w := by
  rw [thoseO_eq h0, upL_one hw (those_iff.2 hb) (fun j hj hq => ?_)]
  · rfl
  · by_cases e : j = w
    · exact e
    · have h1 := hb j hj e
      have h2 := those_iff.1 hq w hw (fun h => e h.symm)
      rw [ha _ _ h1] at h2
      cases h2
set_option maxRecDepth 100000 in
theorem pw_place {n : Nat} {vs : List Vt} {r : List Int} (hk : rkOk n r = true) (hp : r.Pairwise (fun x y => beatsV vs x y = true)) {a b : Nat} (ha : a < n) (hb : b < n) : (bt vs a b = true ↔ placeI r a < placeI r b) := by
  obtain ⟨i, _, ei, hi, _⟩ := place_at hk ha
  obtain ⟨j, _, ej, hj, hu⟩ := place_at hk hb
  rw [ei, ej]
  constructor
  · intro h
    by_cases hlt : i < j
    · omega
    · by_cases e : i = j
      · rw [e, hj] at hi
        injection hi with hi
        have : b = a := by omega
        rw [this, bt_self] at h
        cases h
      · have h2 : beatsV vs b a = true := pw_lt hp (show j < i by omega) hj hi
        have h3 := bt_anti vs _ _ h
        unfold bt at h3
        rw [h2] at h3
        cases h3
  · intro h
    exact pw_lt hp (show i < j by omega) hi hj
set_option maxRecDepth 100000 in
theorem mj_f {n : Nat} {vs : List Vt} (h0 : profOk n vs = true) (h : mjB n vs = true) : MjF n vs := by
  have hsz := prof_size h0
  obtain ⟨hk, hp⟩ := mj_pair h0 h
  generalize hr : mjL n vs = r at hk hp
  have hl := (rk_len hk).1
  refine ⟨by rw [hr]; exact hk, ?_, ?_, ?_⟩
  · rw [hr]
    obtain ⟨x, hx⟩ := at_of_lt (xs := r) (k := 0) (by omega)
    have hm := rk_mem hk (List.mem_of_getElem? hx)
    obtain ⟨w, rfl⟩ : ∃ w : Nat, x = w := ⟨x.toNat, by omega⟩
    have hw : w < n := by omega
    obtain ⟨i, _, ei, _, hu⟩ := place_at hk hw
    have := hu 0 hx
    unfold winnerO
    rw [hx, only_one h0 (p := bt vs) (fun i j => bt_anti vs i j) hw (fun j hj hne => ?_)]
    rw [pw_place hk hp hw hj, ei]
    obtain ⟨q, _, eq, hq, _⟩ := place_at hk hj
    rw [eq]
    by_cases e : q = 0
    · rw [e, hx] at hq
      injection hq with hq
      omega
    · omega
  · unfold transO
    rw [h0, Int.toNat_natCast, Bool.true_and]
    refine allN_t fun a ha => allN_t fun b hb => allN_t fun c hc => ?_
    unfold transC
    cases h1 : beatsV vs a b
    · rfl
    · cases h2 : beatsV vs b c
      · rfl
      · have h3 := (pw_place hk hp ha hb).1 h1
        have h4 := (pw_place hk hp hb hc).1 h2
        have h5 : beatsV vs a c = true := (pw_place hk hp ha hc).2 (by omega)
        rw [h5]; rfl
  · rw [hr]
    obtain ⟨x, hx⟩ := at_of_lt (xs := r) (k := n - 1) (by omega)
    have hm := rk_mem hk (List.mem_of_getElem? hx)
    obtain ⟨w, rfl⟩ : ∃ w : Nat, x = w := ⟨x.toNat, by omega⟩
    have hw : w < n := by omega
    obtain ⟨i, _, ei, _, hu⟩ := place_at hk hw
    have := hu (n - 1) hx
    unfold loserO
    rw [hx, only_one h0 (p := fun i j => bt vs j i) (fun i j => bt_anti vs j i) hw (fun j hj hne => ?_)]
    show bt vs j w = true
    rw [pw_place hk hp hj hw, ei]
    obtain ⟨q, hqn, eq, hq, _⟩ := place_at hk hj
    rw [eq]
    by_cases e : q = n - 1
    · rw [e, hx] at hq
      injection hq with hq
      omega
    · omega
set_option maxRecDepth 100000 in
theorem mj_one {vs : List Vt} (h0 : profOk (1 : Nat) vs = true) : mjB (1 : Nat) vs = true := by
  unfold mjB
  rw [if_pos h0, Int.toNat_natCast]
  unfold mjO
  rw [List.find?_isSome]
  obtain ⟨r, hr⟩ := allO_ne (n := 1) (by omega) (by omega)
  refine ⟨r, hr, ?_⟩
  have hk := (rk_len ((allO_mem (by omega) (by omega)).1 hr)).1
  obtain ⟨x, e⟩ := List.length_eq_one_iff.1 (show r.length = 1 by omega)
  rw [e, mjOk_iff]
  simp

def worF (vs : List Vt) (left : List Int) (x : Int) : Int := sumV (fsP left x) vs
def worL (vs : List Vt) (left : List Int) (x : Int) : Int := -sumV (lsP left x) vs
def worP (vs : List Vt) (left : List Int) (x : Int) : Int := (left.map (fun b => pairV vs x b)).sum

set_option maxRecDepth 100000 in
theorem pairs_bd {sz : Int} {vs : List Vt} (hS : SmallV sz vs) (x : Int) : ∀ left : List Int, 0 ≤ (left.map (fun b => pairV vs x b)).sum ∧ (left.map (fun b => pairV vs x b)).sum ≤ 24000 * left.length
  | [] => by simp
  | b :: left => by
    have h1 := pairs_bd hS x left
    have h2 : 0 ≤ pairV vs x b ∧ pairV vs x b ≤ 24000 := sumV_bd' hS
    simp only [List.map_cons, List.sum_cons, List.length_cons]
    omega

set_option maxRecDepth 100000 in
set_option maxHeartbeats 1000000 in
theorem instOne (w : World) (gp : Nat) (n : Nat) (a al : Option Addr) (c cl : Nat) (vs : List Vt) (left : List Int) (x : Int) (hR : RdV w a vs) (hS : SmallV n vs) (hL : RdI w al left) (hll : left.length ≤ 2000000)
    (h0 : w.cell? ⟨gp, 0, none⟩ = some (.int .i64 n)) (h1 : w.cell? ⟨gp, 1, none⟩ = some (.slice a vs.length c)) :
    Calls Try.prog 159 #[.slice al left.length cl, .int .i64 x, .pointer (some ⟨gp, 0, none⟩)] w fun e w' => e = .returned (.int .i64 (worF vs left x)) ∧ Ext w w' := by
  go_enter Try.func159, Try.ntmps159
  go_wp2_with (go_at_call 160; refine (first_impl _ _ _ _ _ _ _ _ _ (hR.ext (by repeat (first | exact Ext.refl _ | assumption | refine Ext.alloc ?_ _ | refine Ext.drew ?_ | refine Ext.trans ?_ (by assumption)))) hS (hL.ext (by repeat (first | exact Ext.refl _ | assumption | refine Ext.alloc ?_ _ | refine Ext.drew ?_ | refine Ext.trans ?_ (by assumption)))) hll).mono ?_; rintro e w1 ⟨rfl, hw1⟩)
  go_ret
  exact ⟨rfl, (by repeat (first | exact Ext.refl _ | assumption | refine Ext.alloc ?_ _ | refine Ext.drew ?_ | refine Ext.trans ?_ (by assumption)))⟩

set_option maxRecDepth 100000 in
set_option maxHeartbeats 1000000 in
theorem coomOne (w : World) (gp : Nat) (n : Nat) (a al : Option Addr) (c cl : Nat) (vs : List Vt) (left : List Int) (x : Int) (hR : RdV w a vs) (hS : SmallV n vs) (hL : RdI w al left) (hll : left.length ≤ 2000000)
    (h0 : w.cell? ⟨gp, 0, none⟩ = some (.int .i64 n)) (h1 : w.cell? ⟨gp, 1, none⟩ = some (.slice a vs.length c)) :
    Calls Try.prog 162 #[.slice al left.length cl, .int .i64 x, .pointer (some ⟨gp, 0, none⟩)] w fun e w' => e = .returned (.int .i64 (worL vs left x)) ∧ Ext w w' := by
  have hb : 0 ≤ sumV (lsP left x) vs ∧ sumV (lsP left x) vs ≤ 24000 := sumV_bd' hS
  have y1 : wrap64 (-sumV (lsP left x) vs) = -sumV (lsP left x) vs := IntWalk.wrap64_in _ (by omega)
  have y2 : IntKind.i64.wrap (-sumV (lsP left x) vs) = -sumV (lsP left x) vs := IntWalk.i64_in _ (by omega)
  clear hb
  go_enter Try.func162, Try.ntmps162
  go_wp2_with (go_at_call 154; refine (last_impl _ _ _ _ _ _ _ _ _ (hR.ext (by repeat (first | exact Ext.refl _ | assumption | refine Ext.alloc ?_ _ | refine Ext.drew ?_ | refine Ext.trans ?_ (by assumption)))) hS (hL.ext (by repeat (first | exact Ext.refl _ | assumption | refine Ext.alloc ?_ _ | refine Ext.drew ?_ | refine Ext.trans ?_ (by assumption)))) hll).mono ?_; rintro e w1 ⟨rfl, hw1⟩)
  go_ret
  exact ⟨rfl, (by repeat (first | exact Ext.refl _ | assumption | refine Ext.alloc ?_ _ | refine Ext.drew ?_ | refine Ext.trans ?_ (by assumption)))⟩

set_option maxRecDepth 100000 in
set_option maxHeartbeats 1000000 in
theorem baldOne (w : World) (gp : Nat) (n : Nat) (a al : Option Addr) (c cl : Nat) (vs : List Vt) (left : List Int) (x : Int) (hR : RdV w a vs) (hS : SmallV n vs) (hL : RdI w al left) (hll : left.length ≤ 5)
    (h0 : w.cell? ⟨gp, 0, none⟩ = some (.int .i64 n)) (h1 : w.cell? ⟨gp, 1, none⟩ = some (.slice a vs.length c)) :
    Calls Try.prog 161 #[.slice al left.length cl, .int .i64 x, .pointer (some ⟨gp, 0, none⟩)] w fun e w' => e = .returned (.int .i64 (worP vs left x)) ∧ Ext w w' := by
  have HS := hide hS
  clear hS
  go_enter Try.func161, Try.ntmps161
  go_wp2_with fail
  go_loopw [6, 8, 11] (fun s _ i wr => ∃ k : Nat, k ≤ left.length ∧ i = .int .i64 k ∧ s = .int .i64 (worP vs (left.take k) x) ∧ Ext w wr) (fun _ _ i _ => left.length - (intOf i).toNat)
  case atStart => exact ⟨0, Nat.zero_le _, rfl, rfl, Ext.refl _⟩
  case round =>
    obtain ⟨k, hk, rfl, rfl, hwr⟩ := hrel
    have r0 := hwr.keep h0
    have r1 := hwr.keep h1
    by_cases hlt : k < left.length
    · obtain ⟨b, hb⟩ := at_of_lt hlt
      obtain ⟨bb, off, rfl, d0⟩ := (hL.ext hwr).at_ hb
      have b1 := pairs_bd HS.out x (left.take k)
      rw [List.length_take] at b1
      have b2 : 0 ≤ pairV vs x b ∧ pairV vs x b ≤ 24000 := sumV_bd' HS.out
      have b3 : worP vs (left.take (k + 1)) x = worP vs (left.take k) x + pairV vs x b := by unfold worP; rw [take_at hb]; simp
      have b4 : 0 ≤ worP vs (left.take k) x ∧ worP vs (left.take k) x ≤ 120000 := by unfold worP; omega
      have HB := hide b3
      clear b1 b3 hb
      go_wp2_with (go_at_call 121; refine (pairI_impl _ _ _ _ _ _ _ ((hR.ext hwr).ext (by repeat (first | exact Ext.refl _ | assumption | refine Ext.alloc ?_ _ | refine Ext.drew ?_ | refine Ext.trans ?_ (by assumption)))) HS.out).mono ?_; rintro e w1 ⟨rfl, hw1⟩)
      exact ⟨⟨k + 1, by omega, by go_num, by rw [HB.out], (by repeat (first | exact Ext.refl _ | assumption | refine Ext.alloc ?_ _ | refine Ext.drew ?_ | refine Ext.trans ?_ (by assumption)))⟩, by simp [intOf]; omega⟩
    · go_wp2
      go_ret
      exact ⟨ret_int (by rw [List.take_of_length_le (by omega)]), hwr⟩

set_option maxRecDepth 100000 in
set_option maxHeartbeats 1000000 in
theorem inst_impl (w : World) (sz : Int) (a : Option Addr) (c : Nat) (vs : List Vt) (hR : RdV w a vs) :
    Calls Try.prog 69 #[.agg #[.int .i64 sz, .slice a vs.length c]] w fun e w' => ∃ v, e = .returned v ∧ OwnI w' w.heap.size v (elimO sz vs (worF vs)) ∧ Ext w w' := by
  have q0 := new0 w (.int .i64 sz) [.slice a vs.length c] 47
  have q1 := new1 w (.int .i64 sz) (.slice a vs.length c) [] 47
  go_enter Try.func69, Try.ntmps69
  go_wp2_with fail
  refine (elim_impl 159 #[.pointer (some ⟨w.heap.size, 0, none⟩)] (worF vs) _ sz a c vs (hR.ext (by repeat (first | exact Ext.refl _ | assumption | refine Ext.alloc ?_ _ | refine Ext.drew ?_ | refine Ext.trans ?_ (by assumption)))) Try.call159 (fun n left x al cl w' hn hn5 hS _ hll _ hw' hL => ?_)).mono ?_
  · subst hn
    exact instOne w' w.heap.size n a al c cl vs left x (hR.ext ((Ext.new w _).trans hw')) hS hL (by omega) (hw'.keep q0) (hw'.keep q1)
  rintro e w1 ⟨v, rfl, hv, hw1⟩
  go_wp2
  go_ret
  exact ⟨_, rfl, hv.base (Ext.size (by repeat (first | exact Ext.refl _ | assumption | refine Ext.alloc ?_ _ | refine Ext.drew ?_ | refine Ext.trans ?_ (by assumption)))), (by repeat (first | exact Ext.refl _ | assumption | refine Ext.alloc ?_ _ | refine Ext.drew ?_ | refine Ext.trans ?_ (by assumption)))⟩

set_option maxRecDepth 100000 in
set_option maxHeartbeats 1000000 in
theorem coom_impl (w : World) (sz : Int) (a : Option Addr) (c : Nat) (vs : List Vt) (hR : RdV w a vs) :
    Calls Try.prog 71 #[.agg #[.int .i64 sz, .slice a vs.length c]] w fun e w' => ∃ v, e = .returned v ∧ OwnI w' w.heap.size v (elimO sz vs (worL vs)) ∧ Ext w w' := by
  have q0 := new0 w (.int .i64 sz) [.slice a vs.length c] 47
  have q1 := new1 w (.int .i64 sz) (.slice a vs.length c) [] 47
  go_enter Try.func71, Try.ntmps71
  go_wp2_with fail
  refine (elim_impl 162 #[.pointer (some ⟨w.heap.size, 0, none⟩)] (worL vs) _ sz a c vs (hR.ext (by repeat (first | exact Ext.refl _ | assumption | refine Ext.alloc ?_ _ | refine Ext.drew ?_ | refine Ext.trans ?_ (by assumption)))) Try.call162 (fun n left x al cl w' hn hn5 hS _ hll _ hw' hL => ?_)).mono ?_
  · subst hn
    exact coomOne w' w.heap.size n a al c cl vs left x (hR.ext ((Ext.new w _).trans hw')) hS hL (by omega) (hw'.keep q0) (hw'.keep q1)
  rintro e w1 ⟨v, rfl, hv, hw1⟩
  go_wp2
  go_ret
  exact ⟨_, rfl, hv.base (Ext.size (by repeat (first | exact Ext.refl _ | assumption | refine Ext.alloc ?_ _ | refine Ext.drew ?_ | refine Ext.trans ?_ (by assumption)))), (by repeat (first | exact Ext.refl _ | assumption | refine Ext.alloc ?_ _ | refine Ext.drew ?_ | refine Ext.trans ?_ (by assumption)))⟩

set_option maxRecDepth 100000 in
set_option maxHeartbeats 1000000 in
theorem bald_impl (w : World) (sz : Int) (a : Option Addr) (c : Nat) (vs : List Vt) (hR : RdV w a vs) :
    Calls Try.prog 70 #[.agg #[.int .i64 sz, .slice a vs.length c]] w fun e w' => ∃ v, e = .returned v ∧ OwnI w' w.heap.size v (elimO sz vs (worP vs)) ∧ Ext w w' := by
  have q0 := new0 w (.int .i64 sz) [.slice a vs.length c] 47
  have q1 := new1 w (.int .i64 sz) (.slice a vs.length c) [] 47
  go_enter Try.func70, Try.ntmps70
  go_wp2_with fail
  refine (elim_impl 161 #[.pointer (some ⟨w.heap.size, 0, none⟩)] (worP vs) _ sz a c vs (hR.ext (by repeat (first | exact Ext.refl _ | assumption | refine Ext.alloc ?_ _ | refine Ext.drew ?_ | refine Ext.trans ?_ (by assumption)))) Try.call161 (fun n left x al cl w' hn hn5 hS _ hll _ hw' hL => ?_)).mono ?_
  · subst hn
    exact baldOne w' w.heap.size n a al c cl vs left x (hR.ext ((Ext.new w _).trans hw')) hS hL (by omega) (hw'.keep q0) (hw'.keep q1)
  rintro e w1 ⟨v, rfl, hv, hw1⟩
  go_wp2
  go_ret
  exact ⟨_, rfl, hv.base (Ext.size (by repeat (first | exact Ext.refl _ | assumption | refine Ext.alloc ?_ _ | refine Ext.drew ?_ | refine Ext.trans ?_ (by assumption)))), (by repeat (first | exact Ext.refl _ | assumption | refine Ext.alloc ?_ _ | refine Ext.drew ?_ | refine Ext.trans ?_ (by assumption)))⟩

end Go.Proofs.Ythiojkpoeejkaaa
