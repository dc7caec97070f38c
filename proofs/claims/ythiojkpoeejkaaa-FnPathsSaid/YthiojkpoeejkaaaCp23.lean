/- What FnRounds says of a profile (plain law). The first ranking with the least cost, of the program. The distance of a ranking by swaps, of the program, and the first ranking with the least one. Rankings that are changed (plain law). -/
import Derived.Test.YthiojkpoeejkaaaCp22
import Derived.Test.YthiojkpoeejkaaaCp21
import Derived.Test.YthiojkpoeejkaaaCp17
import Derived.Test.YthiojkpoeejkaaaCp15
import Derived.Test.YthiojkpoeejkaaaCp18
import Derived.Lib.BufferMore
namespace Go.Proofs.Ythiojkpoeejkaaa
open Go.RowKit

set_option maxRecDepth 100000 in
/-- A candidate of the majority, or none. -/
theorem maj_cases {n : Nat} {vs : List Vt} (h0 : profOk n vs = true) : (∃ a : Nat, a < n ∧ majO n vs = a ∧ allV vs < 2 * fstV vs a) ∨ majO n vs = -1 := by
  have e : majO n vs = findI (fun x => decide (allV vs < 2 * x)) (rowL n (fstV vs)) := by unfold majO; rw [if_pos h0, Int.toNat_natCast]
  rw [e]
  unfold findI
  cases h : (rowL n (fstV vs)).findIdx? (fun x => decide (allV vs < 2 * x)) with
  | none => exact .inr rfl
  | some k =>
    rw [List.findIdx?_eq_some_iff_getElem] at h
    obtain ⟨h1, h2, _⟩ := h
    rw [rowL_len] at h1
    have h3 : (rowL n (fstV vs))[k]? = some (fstV vs k) := rowL_at h1
    rw [List.getElem?_eq_getElem (by rw [rowL_len]; exact h1)] at h3
    injection h3 with h3
    rw [h3] at h2
    exact .inl ⟨k, h1, rfl, by simpa using h2⟩
set_option maxRecDepth 100000 in
theorem fst_pair {n : Nat} {vs : List Vt} (hS : SmallV n vs) {a b : Nat} (ha : a < n) (hb : b < n) (hne : b ≠ a) : fstV vs a ≤ pairV vs a b := by
  unfold fstV plcV pairV
  refine sumV_mono hS (fun x hx h => ?_)
  have hx0 : x.1[0]? = some (a : Int) := by unfold plcP at h; simpa using h
  obtain ⟨i, _, ei, _, hu⟩ := place_at (hS.2 x hx).1 ha
  obtain ⟨j, _, ej, hj, _⟩ := place_at (hS.2 x hx).1 hb
  have h1 := hu 0 hx0
  have h2 : j ≠ 0 := fun e => by
    rw [e, hx0] at hj
    injection hj with hj
    omega
  unfold prefB
  rw [ei, ej]
  simp only [Bool.and_eq_true, decide_eq_true_eq]
  omega
set_option maxRecDepth 100000 in
/-- Who is first for more than half beats all others. -/
theorem maj_beats {n : Nat} {vs : List Vt} (hS : SmallV n vs) {a : Nat} (ha : a < n) (hm : allV vs < 2 * fstV vs a) : ∀ j, j < n → j ≠ a → bt vs a j = true := fun j hj hne => by
  have h1 := fst_pair hS ha hj hne
  have h2 := pair_tot ha hj (fun e => hne e.symm) hS
  unfold bt beatsV
  rw [decide_eq_true_eq]
  omega
set_option maxRecDepth 100000 in
theorem maj_win {n : Nat} {vs : List Vt} (h0 : profOk n vs = true) {a : Nat} (ha : a < n) (hm : allV vs < 2 * fstV vs a) : winnerO n vs = a := by
  have hb := maj_beats (prof_small h0) ha hm
  rcases win_cases h0 with ⟨w, hw, e, hw2⟩ | ⟨_, h⟩
  · by_cases e2 : w = a
    · rw [e, e2]
    · have h1 := hb w hw e2
      rw [bt_anti vs _ _ (hw2 a ha (fun e => e2 e.symm))] at h1
      cases h1
  · exact absurd hb (h a ha)
set_option maxRecDepth 100000 in
theorem fst_all {n : Nat} {vs : List Vt} (hS : SmallV n vs) {a b : Nat} (ha : a < n) (hb : b < n) (hne : b ≠ a) : fstV vs a + fstV vs b ≤ allV vs := by
  have h1 := fst_pair hS ha hb hne
  have h2 := fst_pair hS hb ha (fun e => hne e.symm)
  have h3 := pair_tot ha hb (fun e => hne e.symm) hS
  omega
set_option maxRecDepth 100000 in
theorem wth_one {n : Nat} {vs : List Vt} (hS : SmallV n vs) {a : Nat} (ha : a < n) : wthV vs 1 a = fstV vs a := by
  have := wth_sum hS ha 1
  simp only [sumN, Int.zero_add] at this
  exact this.symm
set_option maxRecDepth 100000 in
theorem best_sole {n : Nat} {f : Nat → Int} {a : Nat} (ha : a < n) (h : ∀ j, j < n → j ≠ a → f j < f a) : bestL (rowL n f) = [(a : Int)] := by
  have hl := rowL_len n f
  have hmx : maxL (rowL n f) = f a := by
    have h1 := maxL_ge (List.mem_of_getElem? (rowL_at (f := f) ha))
    have h2 := maxL_mem (xs := rowL n f) (fun e => by rw [e] at hl; simp at hl; omega)
    obtain ⟨i, hi⟩ := List.mem_iff_getElem?.1 h2
    obtain ⟨hin, e⟩ := rowL_val hi
    by_cases e2 : i = a
    · rw [e, e2]
    · have := h i hin e2
      omega
  unfold bestL
  rw [hl, hmx]
  refine upL_one ha ?_ (fun j hj hq => ?_)
  · unfold isMax; rw [rowL_at ha]; simp
  · unfold isMax at hq
    rw [rowL_at hj, decide_eq_true_eq] at hq
    injection hq with hq
    by_cases e : j = a
    · exact e
    · have := h j hj e
      omega
set_option maxRecDepth 100000 in
theorem fst_scoV {n : Nat} {vs : List Vt} (hS : SmallV n vs) {a : Nat} (ha : a < n) : scoV pluW vs a = fstV vs a := plc_sco ha hS
set_option maxRecDepth 100000 in
theorem maj_lev {n : Nat} {vs : List Vt} (hS : SmallV n vs) {a : Nat} (ha : a < n) (hm : allV vs < 2 * fstV vs a) : levV n vs = 1 := by
  refine levV_at (j := 0) (by omega) (fun i hi => by omega) (allN_f ha ?_)
  unfold bukA
  rw [wth_one hS ha]
  simp; omega
set_option maxRecDepth 100000 in
theorem maj_buk {n : Nat} {vs : List Vt} (h0 : profOk n vs = true) {a : Nat} (ha : a < n) (hm : allV vs < 2 * fstV vs a) : bukO n vs = a := by
  have hS := prof_small h0
  unfold bukO
  rw [if_pos h0, Int.toNat_natCast, maj_lev hS ha hm, best_sole ha (fun j hj hne => ?_)]
  · rfl
  · rw [wth_one hS hj, wth_one hS ha]
    have := fst_all hS ha hj hne
    omega
set_option maxRecDepth 100000 in
theorem maj_run {n : Nat} {vs : List Vt} (h0 : profOk n vs = true) {a : Nat} (ha : a < n) (hm : allV vs < 2 * fstV vs a) : runO n vs = a := by
  have hS := prof_small h0
  by_cases hn : n = 1
  · rw [run_one h0 hn]; omega
  · have hl := srk_len (scoV pluW vs) n
    obtain ⟨x, hx⟩ := at_of_lt (xs := srk (scoV pluW vs) n) (k := 0) (by omega)
    obtain ⟨y, hy⟩ := at_of_lt (xs := srk (scoV pluW vs) n) (k := 1) (by omega)
    rw [run_two h0 hn hx hy]
    have h1 := best_srk (scoV pluW vs) (n := n) (by omega)
    rw [best_sole ha (fun j hj hne => by
      rw [fst_scoV hS hj, fst_scoV hS ha]
      have := fst_all hS ha hj hne
      omega), List.head?_eq_getElem?, List.head?_eq_getElem?, hx] at h1
    have hxa : x = a := by simpa using h1.symm
    subst hxa
    obtain ⟨j, hj, rfl⟩ := srk_mem (List.mem_of_getElem? hy)
    have hja : j ≠ a := fun e => by
      subst e
      have := nodup_inj (srk_nodup (scoV pluW vs) n) hx hy
      omega
    have hb := maj_beats hS ha hm j hj hja
    have hb2 := bt_anti vs _ _ hb
    unfold bt at hb hb2
    by_cases hlt : (a : Int) < j
    · rw [show max (a : Int) j = j by omega, show min (a : Int) j = a by omega, hb2]; rfl
    · rw [show max (a : Int) j = a by omega, show min (a : Int) j = j by omega, hb]; rfl
structure MajF (n : Nat) (vs : List Vt) (a : Nat) : Prop where
  lt : a < n
  inst : lastI (elimO n vs (worF vs)) = a
  run : runO n vs = a
  buk : bukO n vs = a
  lev : levO n vs = 1
  win : winnerO n vs = a
set_option maxRecDepth 100000 in
theorem maj_f {n : Nat} {vs : List Vt} (h0 : profOk n vs = true) {a : Nat} (ha : a < n) (hm : allV vs < 2 * fstV vs a) : MajF n vs a := by
  have hS := prof_small h0
  refine ⟨ha, ?_, maj_run h0 ha hm, maj_buk h0 ha hm, ?_, maj_win h0 ha hm⟩
  · rw [elimO_eq h0]; exact maj_inst hS ha hm
  · unfold levO; rw [if_pos h0, Int.toNat_natCast, maj_lev hS ha hm]; rfl

set_option maxRecDepth 100000 in
/-- The levels of all candidates add up to the places. -/
theorem wth_all {n : Nat} {k : Nat} (hk : k ≤ n) : ∀ {vs : List Vt}, SmallV n vs → sgN (wthV vs k) n = k * allV vs
  | [], _ => by
    have e : sgN (wthV [] k) n = sgN (fun _ => 0) n := sgN_congr (fun i _ => rfl)
    rw [e, sgN_zero]
    show (0 : Int) = k * 0
    omega
  | x :: vs, h => by
    have ih := wth_all hk h.tail
    have e : sgN (wthV (x :: vs) k) n = sgN (fun a => x.2 * (fun j => if j < k then (1 : Int) else 0) (placeI x.1 a).toNat) n + sgN (wthV vs k) n := by
      rw [← sgN_add]
      refine sgN_congr (fun a ha => ?_)
      obtain ⟨i, _, ei, _, _⟩ := place_at h.head.1 ha
      unfold wthV
      rw [sumV_cons]
      unfold wthP
      rw [ei, Int.toNat_natCast]
      by_cases hik : i < k
      · simp [hik]
      · have : ¬ (i : Int) < k := by omega
        simp [hik]
    have h1 : ∀ m, sgN (fun j => if j < k then (1 : Int) else 0) m = if m ≤ k then (m : Int) else k := by
      intro m
      induction m with
      | zero => simp [sgN]
      | succ m ih =>
        rw [sgN, ih]
        by_cases h2 : m < k
        · rw [if_pos (by omega), if_pos h2, if_pos (by omega)]; omega
        · by_cases h3 : m = k
          · subst h3
            rw [if_pos (Nat.le_refl _), if_neg (by omega), if_neg (by omega)]; omega
          · rw [if_neg (by omega), if_neg h2, if_neg (by omega)]; omega
    rw [e, sgN_mul, place_sum h.head.1 (fun j => if j < k then (1 : Int) else 0), h1, ih, allV_cons]
    by_cases h2 : n = k
    · subst h2
      rw [if_pos (Nat.le_refl _), Int.mul_add, Int.mul_comm]
    · rw [if_neg (by omega), Int.mul_add, Int.mul_comm]
set_option maxRecDepth 100000 in
theorem lev_half {n : Nat} {vs : List Vt} (h0 : profOk n vs = true) (hv : 1 ≤ vs.length) : 1 ≤ levV n vs ∧ 2 * levV n vs ≤ n + 2 := by
  have hS := prof_small h0
  have hsz := prof_size h0
  have hV := allV_pos1 hS hv
  unfold levV
  cases e : (List.range n).find? (fun j => !bukN n vs (j + 1)) with
  | none =>
    exfalso
    rw [List.find?_range_eq_none] at e
    have h1 := e (n - 1) (by omega)
    have h2 := buk_end hS (by omega) (fun e => by rw [e] at hv; simp at hv)
    rw [show n - 1 + 1 = n by omega, h2] at h1
    simp at h1
  | some j =>
    rw [List.find?_range_eq_some] at e
    obtain ⟨_, hj, hno⟩ := e
    have hj := List.mem_range.1 hj
    refine ⟨by simp, ?_⟩
    by_cases hj0 : j = 0
    · subst hj0; simp
    · have h1 := hno (j - 1) (by omega)
      rw [show j - 1 + 1 = j by omega] at h1
      have h1 : bukN n vs j = true := by simpa using h1
      have h2 := wth_all (k := j) (by omega) hS
      have h3 : 2 * sgN (wthV vs j) n ≤ sgN (fun _ => allV vs) n := by
        rw [← sgN_mul]
        refine sgN_le (fun i hi => ?_)
        have := allN_at h1 hi
        unfold bukA at this
        simp at this
        omega
      rw [h2, sgN_const] at h3
      have h4 : (2 * (j : Int)) * allV vs ≤ (n : Int) * allV vs := by rw [Int.mul_assoc]; exact h3
      have h5 := Int.le_of_mul_le_mul_right h4 (by omega)
      simp
      omega
set_option maxRecDepth 100000 in
theorem buk_lt {n : Nat} {vs : List Vt} (h0 : profOk n vs = true) : ∃ a : Nat, a < n ∧ bukO n vs = a := by
  have hsz := prof_size h0
  unfold bukO
  rw [if_pos h0, Int.toNat_natCast]
  obtain ⟨a, ha, r, e⟩ := best_head (f := wthV vs (levV n vs)) (n := n) (by omega)
  exact ⟨a, ha, by rw [e]; rfl⟩

/-- The counts of a round. -/
structure RouF (n : Nat) (vs : List Vt) (k : Nat) : Prop where
  val : rouO n vs (elimL n (worF vs) k) = rowL n (rouV n vs (elimL n (worF vs) k))
  sum : sgN (rouV n vs (elimL n (worF vs) k)) n + k = allV vs
  pick : ∃ p : Nat, p < n ∧ (elimL n (worF vs) n)[k]? = some (p : Int) ∧ ∀ x : Nat, x < n → (x : Int) ∉ elimL n (worF vs) k → rouV n vs (elimL n (worF vs) k) p < rouV n vs (elimL n (worF vs) k) x ∨ (rouV n vs (elimL n (worF vs) k) p = rouV n vs (elimL n (worF vs) k) x ∧ x ≤ p)
set_option maxRecDepth 100000 in
theorem rou_in {n : Nat} {vs : List Vt} {out : List Int} {x : Nat} (h : (x : Int) ∉ out) : rouV n vs out x = worF vs (leftL n out) x := by
  unfold rouV
  rw [if_neg (fun e => h (hasI_iff.1 e))]
set_option maxRecDepth 100000 in
theorem rou_gone {n : Nat} (out : List Int) : sgN (fun i => if notIn out i then (0 : Int) else 1) n + (leftL n out).length = n := by
  unfold leftL
  induction n with
  | zero => simp [sgN, upL]
  | succ n ih =>
    rw [sgN, upL_succ, List.length_append]
    cases notIn out n <;> simp <;> omega
set_option maxRecDepth 100000 in
theorem rou_f {n : Nat} {vs : List Vt} (h0 : profOk n vs = true) {k : Nat} (hk : k < n) : RouF n vs k := by
  have hS := prof_small h0
  have hsz := prof_size h0
  have hl := leftL_elim (n := n) (worF vs) k (by omega)
  have hne : leftL n (elimL n (worF vs) k) ≠ [] := fun e => by rw [e] at hl; simp at hl; omega
  have hpk := elim_pick (n := n) (worF vs) hk
  have hat := elim_at (n := n) (worF vs) hk
  have hrk := elim_rk (n := n) (by omega) (by omega) (worF vs)
  refine ⟨?_, ?_, ?_⟩
  · unfold rouO
    rw [h0, Int.toNat_natCast, Bool.true_and, if_pos]
    unfold rouOk
    rw [Bool.and_eq_true, List.all_eq_true]
    refine ⟨fun x hx => ?_, by simp [hne]⟩
    have hm : x ∈ elimL n (worF vs) n := by
      rw [← elim_take (worF vs) n k (by omega)] at hx
      exact List.mem_of_mem_take hx
    have := rk_mem hrk hm
    exact inR_iff.2 (by omega)
  · generalize elimL n (worF vs) k = out at hl hne
    have h1 : sgN (fun i => if notIn out i then worF vs (leftL n out) i else 0) n = allV vs := first_sum (n := n) (q := notIn out) hne hS
    have h2 := rou_gone (n := n) out
    have e : sgN (rouV n vs out) n = sgN (fun i => if notIn out i then worF vs (leftL n out) i else 0) n - sgN (fun i => if notIn out i then (0 : Int) else 1) n := by
      have : ∀ m, sgN (rouV n vs out) m = sgN (fun i => if notIn out i then worF vs (leftL n out) i else 0) m - sgN (fun i => if notIn out i then (0 : Int) else 1) m := by
        intro m
        induction m with
        | zero => rfl
        | succ m ih =>
          rw [sgN, sgN, sgN, ih]
          unfold rouV notIn
          cases hasI out (m : Int) <;> simp <;> omega
      exact this n
    rw [e, h1]
    omega
  · obtain ⟨p, hp, hpn, ep⟩ := leftL_mem.1 hpk
    rw [ep] at hat
    refine ⟨p, hp, hat, fun x hx hxn => ?_⟩
    have h1 := pickV_least (f := worF vs (leftL n (elimL n (worF vs) k))) (fun x hx => leftL_pos hx) (leftL_up n _) x (leftL_mem.2 ⟨x, hx, hxn, rfl⟩)
    rw [ep] at h1
    rw [rou_in hpn, rou_in hxn]
    omega
set_option maxRecDepth 100000 in
theorem rou_end {n : Nat} {vs : List Vt} (h0 : profOk n vs = true) : rouO n vs (elimL n (worF vs) n) = [] := by
  have hl := leftL_elim (n := n) (worF vs) n (Nat.le_refl _)
  have he : leftL n (elimL n (worF vs) n) = [] := List.length_eq_zero_iff.1 (by omega)
  unfold rouO
  rw [h0, Int.toNat_natCast]
  unfold rouOk
  rw [he]
  simp

set_option maxRecDepth 100000 in
set_option maxHeartbeats 4000000 in
theorem least_impl (K : Nat) (fst cap : Array Value) (cost : List Int → Int) (w : World) (n : Nat) (a : Option Addr) (c : Nat) (vs : List Vt) (hR : RdV w a vs) (h0 : profOk n vs = true) (n1 : 1 ≤ n) (n2 : n ≤ 5) (hK : Enters Try.prog K)
    (hf : ∀ (r : List Int) (a' : Option Addr) (c' : Nat) (w' : World), rkOk n r = true → r.length ≤ c' → RdI w' a' r → Ext w w' → Calls Try.prog K (fst.push (.slice a' r.length c') ++ cap) w' fun e w'' => e = .returned (.int .i64 (cost r)) ∧ Ext w' w'') :
    Calls Try.prog 170 #[.agg #[.int .i64 n, .slice a vs.length c], .func (.func K) fst cap] w fun e w' => ∃ v, e = .returned (.tuple #[v, .int .i64 (lstR cost n).2.1, .int .i64 ((lstR cost n).2.2 : Nat)]) ∧ OwnI w' w.heap.size v (lstR cost n).1 ∧ Ext w w' := by
  unfold Enters at hK
  have HF := hide hf
  clear hf
  have q0 := new0 w (.int .i64 n) [.slice a vs.length c] 47
  have q1 := new1 w (.int .i64 n) (.slice a vs.length c) [] 47
  have hnil : ∀ (W : World) (a : Addr) (n c : Nat), (binOp .eql 29 (.slice (some a) n c) (.slice none 0 0)).run Try.prog W = .ok (.bool false) W := fun W a n c => Lib.run_eql_slice_some_nil W a n c Try.underlying29
  have hnn : ∀ (W : World), (binOp .eql 29 (.slice none 0 0) (.slice none 0 0)).run Try.prog W = .ok (.bool true) W := fun W => Lib.run_eql_slice_nil_nil W 0 0 Try.underlying29
  go_enter Try.func170, Try.ntmps170
  go_wp2_with (go_at_call 35; refine (prof_impl _ _ _ _ _ (hR.ext (by repeat (first | exact Ext.refl _ | assumption | refine Ext.alloc ?_ _ | refine Ext.drew ?_ | refine Ext.trans ?_ (by assumption))))).mono ?_; rintro e w1 ⟨rfl, hw1⟩; have q0 := Ext.keep (w' := w1) (by repeat (first | exact Ext.refl _ | assumption | refine Ext.alloc ?_ _ | refine Ext.drew ?_ | refine Ext.trans ?_ (by assumption))) q0; have q1 := Ext.keep (w' := w1) (by repeat (first | exact Ext.refl _ | assumption | refine Ext.alloc ?_ _ | refine Ext.drew ?_ | refine Ext.trans ?_ (by assumption))) q1)
  refine (allR_impl _ n n1 n2).mono ?_
  rintro e w2 ⟨v, rfl, hv, hw2⟩
  have hw : Ext w w2 := (by repeat (first | exact Ext.refl _ | assumption | refine Ext.alloc ?_ _ | refine Ext.drew ?_ | refine Ext.trans ?_ (by assumption)))
  have hlow : w.heap.size ≤ w1.heap.size := Ext.size (by repeat (first | exact Ext.refl _ | assumption | refine Ext.alloc ?_ _ | refine Ext.drew ?_ | refine Ext.trans ?_ (by assumption)))
  have HM : Hid (∀ r ∈ allO n, rkOk n r = true) := fun r hr => (allO_mem n1 n2).1 hr
  have HL : Hid (lstR cost n = lstT cost (allO n) (allO n).length) := rfl
  have hrl : (allO n).length ≤ 3125 := Nat.le_trans (allS_len n2 n []) (Nat.pow_le_pow_right (n := 5) (by decide) n2)
  have hrp := allO_pos n1 n2
  generalize allO n = rows at hv HM HL hrl hrp
  have hv := hv.wr
  have hv' := hv
  obtain ⟨av, cv, rfl, hcv, hju⟩ := hv'
  clear hju hw1 hw2 q0 q1 h0
  obtain ⟨wb, hwb⟩ : ∃ wb : World, wb = w2 := ⟨_, rfl⟩
  subst hwb
  go_wp2_with fail
  go_loopw [7, 8, 9, 11, 12, 20, 27, 37] (fun v l m _ _ i _ _ wr => ∃ k : Nat, k ≤ rows.length ∧ i = .int .i64 k ∧ l = .int .i64 (lstT cost rows k).2.1 ∧ m = .int .i64 ((lstT cost rows k).2.2 : Nat) ∧ Hid ((k = 0 → v = .slice none 0 0) ∧ (1 ≤ k → OwnI wr w.heap.size v (lstT cost rows k).1)) ∧ Ext wb wr) (fun _ _ _ _ _ i _ _ _ => rows.length - (intOf i).toNat)
  case atStart => exact ⟨0, Nat.zero_le _, rfl, rfl, rfl, ⟨fun _ => rfl, fun h => absurd h (by omega)⟩, Ext.refl _⟩
  case round =>
    obtain ⟨k, hk, rfl, rfl, rfl, hb, hwr⟩ := hrel
    by_cases hkt : k < rows.length
    · obtain ⟨r, hr⟩ := at_of_lt hkt
      obtain ⟨g, c3, a3, c4, hav, d0, hc4, hO⟩ := (hv.ext hwr).own hr
      injection hav with hav hav2 hav3
      subst hav
      subst hav3
      clear hav2
      have hrk := HM.out r (List.mem_of_getElem? hr)
      have HOb := hide (hO.base hlow)
      have HC := hide (fun w' (hw' : Ext wr w') => HF.out r a3 c4 w' hrk hc4 (hO.rdI.ext hw') ((hw.trans hwr).trans hw'))
      have HR := hide hr
      have hcn := lstT_cnt (cost := cost) (xss := rows) k
      have y1 : wrap64 (((lstT cost rows k).2.2 : Int) + 1) = ((lstT cost rows k).2.2 : Int) + 1 := IntWalk.wrap64_in _ (by omega)
      clear hr hrk hO
      by_cases hk0 : k = 0
      · have HT := hide (lstT_new (cost := cost) HR.out (.inl hk0))
        have hu := hb.out.1 hk0
        subst hu
        clear hk0 y1
        go_wp2_with fail
        refine (HC.out _ (by repeat (first | exact Ext.refl _ | assumption | refine Ext.alloc ?_ _ | refine Ext.drew ?_ | refine Ext.trans ?_ (by assumption)))).mono ?_
        rintro e w3 ⟨rfl, hw3⟩
        go_wp2
        exact ⟨⟨k + 1, by omega, by go_num, by rw [HT.out], by rw [HT.out]; rfl, hide ⟨fun h => absurd h (by omega), fun _ => by rw [HT.out]; exact HOb.out.ext hw3⟩, hwr.trans hw3⟩, by simp [intOf]; omega⟩
      · have hbo := hb.out.2 (by omega)
        have hmem := lstT_mem (cost := cost) (xss := rows) k (by omega) hk
        obtain ⟨a7, c7, rfl, _, _, hR7, ho7⟩ := hbo.val
        have hlb := (rk_len (HM.out _ hmem.1)).1
        obtain ⟨g7, hg7, _⟩ := ho7 (fun e => by rw [e] at hlb; simp at hlb; omega)
        subst hg7
        have HBO := hide hbo
        have HK0 := hide hk0
        have hcr := hc4
        clear hR7 ho7 hmem hbo hk0 hlb hcr hb
        rcases (show cost r < (lstT cost rows k).2.1 ∨ cost r = (lstT cost rows k).2.1 ∨ (lstT cost rows k).2.1 < cost r by omega) with hlt | heq | hgt
        · have HT := hide (lstT_new (cost := cost) HR.out (.inr hlt))
          go_wp2_with fail
          refine (HC.out _ (by repeat (first | exact Ext.refl _ | assumption | refine Ext.alloc ?_ _ | refine Ext.drew ?_ | refine Ext.trans ?_ (by assumption)))).mono ?_
          rintro e w3 ⟨rfl, hw3⟩
          go_wp2
          exact ⟨⟨k + 1, by omega, by go_num, by rw [HT.out], by rw [HT.out]; rfl, hide ⟨fun h => absurd h (by omega), fun _ => by rw [HT.out]; exact HOb.out.ext hw3⟩, hwr.trans hw3⟩, by simp [intOf]; omega⟩
        · have HT := hide (lstT_tie (cost := cost) HR.out HK0.out heq)
          have t1 : ¬ cost r < (lstT cost rows k).2.1 := by omega
          have t2 : (cost r == (lstT cost rows k).2.1) = true := by rw [beq_iff_eq]; exact heq
          have HQ := hide heq
          clear heq
          go_wp2_with fail
          refine (HC.out _ (by repeat (first | exact Ext.refl _ | assumption | refine Ext.alloc ?_ _ | refine Ext.drew ?_ | refine Ext.trans ?_ (by assumption)))).mono ?_
          rintro e w3 ⟨rfl, hw3⟩
          go_wp2
          exact ⟨⟨k + 1, by omega, by go_num, by rw [HT.out], by rw [HT.out]; exact congrArg (Value.int .i64) (by simp), hide ⟨fun h => absurd h (by omega), fun _ => by rw [HT.out]; exact HBO.out.ext hw3⟩, hwr.trans hw3⟩, by simp [intOf]; omega⟩
        · have HT := hide (lstT_old (cost := cost) HR.out HK0.out hgt)
          have t1 : ¬ cost r < (lstT cost rows k).2.1 := by omega
          have t2 : (cost r == (lstT cost rows k).2.1) = false := by rw [beq_eq_false_iff_ne]; omega
          go_wp2_with fail
          refine (HC.out _ (by repeat (first | exact Ext.refl _ | assumption | refine Ext.alloc ?_ _ | refine Ext.drew ?_ | refine Ext.trans ?_ (by assumption)))).mono ?_
          rintro e w3 ⟨rfl, hw3⟩
          go_wp2
          exact ⟨⟨k + 1, by omega, by go_num, by rw [HT.out], by rw [HT.out], hide ⟨fun h => absurd h (by omega), fun _ => by rw [HT.out]; exact HBO.out.ext hw3⟩, hwr.trans hw3⟩, by simp [intOf]; omega⟩
    · have hkn : k = rows.length := by omega
      have HE : Hid (lstR cost n = lstT cost rows k) := hide (by rw [HL.out, hkn])
      have hbo := hide (hb.out.2 (by omega))
      clear hkn hb
      go_wp2
      go_ret3
      refine ⟨_, (by rw [HE.out]; rfl), ?_, hw.trans hwr⟩
      rw [HE.out]
      exact hbo.out

set_option maxRecDepth 100000 in
set_option maxHeartbeats 1000000 in
theorem isRk_impl (w : World) (a : Option Addr) (c n : Nat) (xs : List Int) (hx : rkOk n xs = true) (hR : RdI w a xs) (hl : xs.length = n) (hc : n ≤ c) (n1 : inR (n : Int) 1 5 = true) :
    Calls Try.prog 152 #[.slice a n c] w fun e w' => e = .returned (.bool true) ∧ Ext w w' := by
  have h1 := rank_impl_n w n a c xs hR hl hc n1
  rw [hx] at h1
  have H1 := hide h1
  clear hx h1 hl hR
  go_enter Try.func152, Try.ntmps152
  go_wp2_with fail
  refine H1.out.mono ?_
  rintro e w1 ⟨rfl, hw1⟩
  go_wp2
  go_ret
  exact ⟨rfl, hw1⟩

set_option maxRecDepth 100000 in
set_option maxHeartbeats 4000000 in
theorem swap_impl (w : World) (a a2 : Option Addr) (c c2 : Nat) (n : Nat) (xs r : List Int) (hx : rkOk n xs = true) (hr : rkOk n r = true) (hR : RdI w a xs) (hR2 : RdI w a2 r) (hc : xs.length ≤ c) (hc2 : r.length ≤ c2) (n1 : inR (n : Int) 1 5 = true) :
    Calls Try.prog 176 #[.slice a xs.length c, .slice a2 r.length c2] w fun e w' => e = .returned (.int .i64 (swapN xs r : Nat)) ∧ Ext w w' := by
  have l1 := rk_len hx
  have l2 := rk_len hr
  have hxn : xs.length = n := by omega
  have hrn : r.length = n := by omega
  have n2 : n ≤ 5 := by omega
  have HX := hide hx
  have HR := hide hr
  have HXN := hide hxn
  have HRN := hide hrn
  rw [hxn] at hc
  rw [hrn] at hc2
  rw [hxn, hrn]
  clear hx hr l1 l2 hxn hrn
  obtain ⟨q, hq⟩ : ∃ q : Int → Int → Bool, q = fun y x => prefB r y x := ⟨_, rfl⟩
  have HQ : Hid (swapN xs r = bkI q xs) := hide (by rw [hq]; rfl)
  have HP : Hid (∀ (x y : Int) (w' : World), Ext w w' → Calls Try.prog 81 #[.slice a2 n c2, .int .i64 y, .int .i64 x] w' fun e w'' => e = .returned (.bool (q y x)) ∧ Ext w' w'') := fun x y w' hw' => by
    have h := pref_impl w' a2 c2 r y x (hR2.ext hw') (by rw [HRN.out]; omega)
    rw [HRN.out] at h
    rw [hq]
    exact h
  clear hq
  go_enter Try.func176, Try.ntmps176
  go_wp2_with (first
    | (go_at_call 152; refine (isRk_impl _ a c n xs HX.out (hR.ext (by repeat (first | exact Ext.refl _ | assumption | refine Ext.alloc ?_ _ | refine Ext.drew ?_ | refine Ext.trans ?_ (by assumption)))) HXN.out hc n1).mono ?_; rintro e w1 ⟨rfl, hw1⟩)
    | (go_at_call 152; refine (isRk_impl _ a2 c2 n r HR.out (hR2.ext (by repeat (first | exact Ext.refl _ | assumption | refine Ext.alloc ?_ _ | refine Ext.drew ?_ | refine Ext.trans ?_ (by assumption)))) HRN.out hc2 n1).mono ?_; rintro e w1 ⟨rfl, hw1⟩))
  have hw : Ext w w1 := (by repeat (first | exact Ext.refl _ | assumption | refine Ext.alloc ?_ _ | refine Ext.drew ?_ | refine Ext.trans ?_ (by assumption)))
  obtain ⟨wb, hwb⟩ : ∃ wb : World, wb = w1 := ⟨_, rfl⟩
  subst hwb
  clear hw1
  go_loopw [5, 6, 7, 9, 27, 35, 36, 37] (fun s _ _ _ i _ _ _ wr => ∃ j : Nat, j ≤ n ∧ i = .int .i64 j ∧ s = .int .i64 (bkTo q xs j : Nat) ∧ Ext wb wr) (fun _ _ _ _ i _ _ _ _ => n - (intOf i).toNat)
  case atStart => exact ⟨0, Nat.zero_le _, rfl, rfl, Ext.refl _⟩
  case round =>
    obtain ⟨j, hj, rfl, rfl, hwr⟩ := hrel
    have hbd := bkTo_bd q xs j
    rw [HXN.out] at hbd
    have hbd2 : bkTo q xs j ≤ 5 * 5 := Nat.le_trans hbd (Nat.mul_le_mul (by omega) n2)
    by_cases hjt : j < n
    · obtain ⟨x, hx⟩ := at_of_lt (xs := xs) (k := j) (by rw [HXN.out]; exact hjt)
      have hxm := List.mem_of_getElem? hx
      obtain ⟨b, off, rfl, c0⟩ := (hR.ext (hw.trans hwr)).at_ hx
      have hRd := (hR.ext (hw.trans hwr)).drop (n := off + (j + 1)) (j + 1) c (by rw [HXN.out]; exact hc) rfl
      have i1 : (j : Int) + 1 ≤ (c : Int) := by omega
      have i2 : j ≤ c := by omega
      have i3 : j + 1 ≤ c := by omega
      have i4 : j + 1 ≤ n := by omega
      have i7 : (j : Int) + 1 ≤ (n : Int) := by omega
      have i5 : ((j : Int) + 1).toNat = j + 1 := by omega
      have i6 : (0 : Int) ≤ (j : Int) + 1 := by omega
      have y1 : wrap64 ((j : Int) + 1) = (j : Int) + 1 := IntWalk.wrap64_in _ (by omega)
      have y2 : IntKind.i64.wrap ((j : Int) + 1) = (j : Int) + 1 := IntWalk.i64_in _ (by omega)
      have hgd : xs.getD j 0 = x := by simp [List.getD, hx]
      have hsu : bkTo q xs (j + 1) = bkTo q xs j + ((xs.drop (j + 1)).countP (fun y => q y x)) := by rw [bkTo, hgd]
      have HSU := hide hsu
      have hdl : (xs.drop (j + 1)).length = n - (j + 1) := by rw [List.length_drop, HXN.out]
      have HDL := hide hdl
      have HDM : Hid (∀ y ∈ xs.drop (j + 1), y ∈ xs) := fun y hy => List.mem_of_mem_drop hy
      clear hx hgd hsu hdl
      go_wp2_with fail
      all_goals
        first | rw [if_pos (by assumption)] at hRd | rw [if_neg (by assumption)] at hRd
        first | subst h | clear h
        clear i1 i2 i3 i4 i5 i6 i7 y1 y2
        generalize xs.drop (j + 1) = ys at hRd HSU HDL HDM
        obtain ⟨wo, hwo⟩ : ∃ wo : World, wo = wr := ⟨_, rfl⟩
        subst hwo
        go_loopw [5, 9, 37] (fun s _ i wr => ∃ m : Nat, m ≤ n - (j + 1) ∧ i = .int .i64 m ∧ s = .int .i64 ((bkTo q xs j : Int) + ((ys.take m).countP (fun y => q y x) : Int)) ∧ Ext wo wr) (fun _ _ i _ => n - (j + 1) - (intOf i).toNat)
        case atStart => exact ⟨0, Nat.zero_le _, rfl, by simp, Ext.refl _⟩
        case round =>
          obtain ⟨m, hm, rfl, rfl, hwr2⟩ := hrel
          by_cases hmt : m < n - (j + 1)
          · obtain ⟨y, hy⟩ := at_of_lt (xs := ys) (k := m) (by have := HDL.out; omega)
            obtain ⟨b2, off2, hb2, d0⟩ := (hRd.ext hwr2).at_ hy
            injection hb2 with hb2
            injection hb2 with hb2 hb3
            subst hb2
            subst hb3
            have hcm := List.countP_le_length (p := fun y => q y x) (l := ys.take m)
            rw [List.length_take] at hcm
            have hm2 : (ys.take m).countP (fun y => q y x) ≤ 5 := by omega
            have y3 : wrap64 ((bkTo q xs j : Int) + ((ys.take m).countP (fun y => q y x) : Int) + 1) = (bkTo q xs j : Int) + ((ys.take m).countP (fun y => q y x) : Int) + 1 := IntWalk.wrap64_in _ (by omega)
            have HN := hide (countP_at (p := fun y => q y x) hy)
            have hym := HDM.out y (List.mem_of_getElem? hy)
            clear hy hcm
            have HC := hide (HP.out x y wr (hw.trans (hwr.trans hwr2)))
            cases hq : q y x
            all_goals
              rw [hq] at HC HN
              go_wp2_with fail
              all_goals refine HC.out.mono ?_
              all_goals rintro e w1 ⟨rfl, hw1⟩
              all_goals go_wp2
              all_goals refine ⟨⟨m + 1, by omega, by go_num, ?_, hwr2.trans hw1⟩, by simp [intOf]; omega⟩
              all_goals rw [HN.out]
              all_goals simp
              all_goals omega
          · have hmn : m = n - (j + 1) := by omega
            have hyl := HDL.out
            go_wp2
            refine ⟨⟨j + 1, by omega, by go_num, ?_, hwr.trans hwr2⟩, by simp [intOf]; omega⟩
            rw [HSU.out, List.take_of_length_le (by omega), Int.natCast_add]
    · have hjn : j = n := by omega
      go_wp2
      go_ret
      exact ⟨ret_int (by rw [hjn, HQ.out, ← HXN.out, bkTo_all]), hw.trans hwr⟩

set_option maxRecDepth 100000 in
set_option maxHeartbeats 4000000 in
theorem kemS_impl (w : World) (n : Nat) (a ar : Option Addr) (c cr : Nat) (vs : List Vt) (r : List Int) (hR : RdV w a vs) (hRr : RdI w ar r) (h0 : profOk n vs = true) (hr : rkOk n r = true) (hcr : r.length ≤ cr) :
    Calls Try.prog 83 #[.agg #[.int .i64 n, .slice a vs.length c], .slice ar r.length cr] w fun e w' => e = .returned (.int .i64 (kemV vs r)) ∧ Ext w w' := by
  have q0 := new0 w (.int .i64 n) [.slice a vs.length c] 47
  have q1 := new1 w (.int .i64 n) (.slice a vs.length c) [] 47
  have HS := hide (prof_small h0)
  have hin : inR (n : Int) 1 5 = true := inR_iff.2 (by have := prof_size h0; omega)
  have hrn : r.length = n := by have := (rk_len hr).1; omega
  have HRK := hide hr
  have HRN := hide hrn
  have n2 : n ≤ 5 := by have := prof_size h0; omega
  rw [hrn] at hcr ⊢
  clear hr hrn
  go_enter Try.func83, Try.ntmps83
  have HRO : Hid (∀ w', Ext w w' → Calls Try.prog 116 #[.int .i64 n, .slice ar n cr] w' fun e w'' => e = .returned (.bool true) ∧ Ext w' w'') := fun w' hw' => by
    have h := rank_impl_n w' n ar cr r (hRr.ext hw') HRN.out hcr hin
    rw [HRK.out] at h
    exact h
  go_wp2_with (first
    | (go_at_call 35; refine (prof_impl _ _ _ _ _ (hR.ext (by repeat (first | exact Ext.refl _ | assumption | refine Ext.alloc ?_ _ | refine Ext.drew ?_ | refine Ext.trans ?_ (by assumption))))).mono ?_; rintro e w1 ⟨rfl, hw1⟩; have q0 := Ext.keep (w' := w1) (by repeat (first | exact Ext.refl _ | assumption | refine Ext.alloc ?_ _ | refine Ext.drew ?_ | refine Ext.trans ?_ (by assumption))) q0; have q1 := Ext.keep (w' := w1) (by repeat (first | exact Ext.refl _ | assumption | refine Ext.alloc ?_ _ | refine Ext.drew ?_ | refine Ext.trans ?_ (by assumption))) q1)
    | (go_at_call 116; refine (HRO.out _ (by repeat (first | exact Ext.refl _ | assumption | refine Ext.alloc ?_ _ | refine Ext.drew ?_ | refine Ext.trans ?_ (by assumption)))).mono ?_; rintro e w1 ⟨rfl, hw1⟩; have q0 := Ext.keep (w' := w1) (by repeat (first | exact Ext.refl _ | assumption | refine Ext.alloc ?_ _ | refine Ext.drew ?_ | refine Ext.trans ?_ (by assumption))) q0; have q1 := Ext.keep (w' := w1) (by repeat (first | exact Ext.refl _ | assumption | refine Ext.alloc ?_ _ | refine Ext.drew ?_ | refine Ext.trans ?_ (by assumption))) q1))
  have hw : Ext w w1 := (by repeat (first | exact Ext.refl _ | assumption | refine Ext.alloc ?_ _ | refine Ext.drew ?_ | refine Ext.trans ?_ (by assumption)))
  obtain ⟨wb, hwb⟩ : ∃ wb : World, wb = w1 := ⟨_, rfl⟩
  subst hwb
  clear hw1 HRO
  have hvl := HS.out.1
  go_loopw [5, 7, 21] (fun s _ i wr => ∃ k : Nat, k ≤ vs.length ∧ i = .int .i64 k ∧ s = .int .i64 (kemV (vs.take k) r) ∧ Ext wb wr) (fun _ _ i _ => vs.length - (intOf i).toNat)
  case atStart => exact ⟨0, Nat.zero_le _, rfl, rfl, Ext.refl _⟩
  case round =>
    obtain ⟨k, hk, rfl, rfl, hwr⟩ := hrel
    have hbd := kemV_bd (r := r) HS.out k hk
    by_cases hkt : k < vs.length
    · obtain ⟨x, hx⟩ := at_of_lt hkt
      obtain ⟨b, off, a', c', rfl, c0, c1, hc', hRx⟩ := (hR.ext (hw.trans hwr)).at_ hx
      have hxs := HS.out.2 x (List.mem_of_getElem? hx)
      have hxl : x.1.length = n := by have := (rk_len hxs.1).1; omega
      have hsb := swapN_bd (r := r) (rk_len hxs.1).2
      have hp1 : 0 ≤ x.2 * (swapN x.1 r : Int) := Int.mul_nonneg (by omega) (by omega)
      have hp2 : x.2 * (swapN x.1 r : Int) ≤ 1000 * 25 := Int.mul_le_mul (by omega) (by omega) (by omega) (by omega)
      have HN := hide (kemV_at (r := r) hx)
      have HC : Hid (∀ w', Ext wr w' → Calls Try.prog 176 #[.slice a' x.1.length c', .slice ar n cr] w' fun e w'' => e = .returned (.int .i64 (swapN x.1 r : Nat)) ∧ Ext w' w'') := fun w' hw' => by
        have h := swap_impl w' a' ar c' cr n x.1 r hxs.1 HRK.out (hRx.ext hw') (hRr.ext ((hw.trans hwr).trans hw')) hc' (by rw [HRN.out]; exact hcr) hin
        rw [HRN.out] at h
        exact h
      have e0 := new0 wr (.slice a' x.1.length c') [.int .i64 x.2] 97
      have e1 := new1 wr (.slice a' x.1.length c') (.int .i64 x.2) [] 97
      have y1 : IntKind.i64.wrap (x.2 * (swapN x.1 r : Int)) = x.2 * (swapN x.1 r : Int) := IntWalk.i64_in _ (by omega)
      have y2 : IntKind.i64.wrap (kemV (vs.take k) r + x.2 * (swapN x.1 r : Int)) = kemV (vs.take k) r + x.2 * (swapN x.1 r : Int) := IntWalk.i64_in _ (by omega)
      clear hx hxs hxl hsb hp1 hp2 hRx hbd
      go_wp2
      refine wp_region_X (by kernel_rfl) (by kernel_rfl) ?_
      repeat' (refine wpX_stepQ (fun K hK => ?_)
               go_simp
               try (rw [if_neg (by intro h; simp [undef] at h)])
               try split
               all_goals
                 first
                 | (refine hK _ ?_
                    clear hK K)
                 | (apply Exists.intro
                    refine ⟨fun wq hwq => ?_, hK _ ?_⟩
                    · have hcq := hwq.cellS
                      go_simp
                      first
                      | exact ⟨Ext.refl _, rfl⟩
                      | exact ⟨Ext.refl _, HC.out _ (by repeat (first | exact Ext.refl _ | assumption | refine Ext.alloc ?_ _ | refine Ext.drew ?_ | refine Ext.trans ?_ (by assumption)))⟩
                    clear hK K))
      refine wpX_nil (fun wz hwz => ?_)
      go_wp2
      exact ⟨⟨k + 1, by omega, by go_num, by rw [HN.out], (by repeat (first | exact Ext.refl _ | assumption | refine Ext.alloc ?_ _ | refine Ext.drew ?_ | refine Ext.trans ?_ (by assumption)))⟩, by simp [intOf]; omega⟩
    · have HK : Hid (kemV (vs.take k) r = kemV vs r) := hide (by rw [List.take_of_length_le (by omega)])
      go_wp2
      go_ret
      exact ⟨ret_int HK.out, hw.trans hwr⟩

set_option maxRecDepth 100000 in
set_option maxHeartbeats 1000000 in
theorem kem_impl (w : World) (sz : Int) (a : Option Addr) (c : Nat) (vs : List Vt) (hR : RdV w a vs) (h0 : profOk sz vs = true) :
    Calls Try.prog 79 #[.agg #[.int .i64 sz, .slice a vs.length c]] w fun e w' => ∃ v, e = .returned v ∧ OwnI w' w.heap.size v (kemO sz vs) ∧ Ext w w' := by
  obtain ⟨n, rfl, n1, n2⟩ := prof_nat h0
  have q0 := new0 w (.int .i64 n) [.slice a vs.length c] 47
  have q1 := new1 w (.int .i64 n) (.slice a vs.length c) [] 47
  have hE := Ext.new w (.cells #[.int .i64 n, .slice a vs.length c] 47)
  have hl := least_impl 171 #[] #[.pointer (some ⟨w.heap.size, 0, none⟩)] (kemV vs) _ n a c vs (hR.ext hE) h0 n1 n2 Try.call171
    (fun r a' c' w' hr hc hRr hw' => by
      have r0 := hw'.keep q0
      have r1 := hw'.keep q1
      have HC := hide (fun w'' (hw'' : Ext w' w'') => kemS_impl w'' n a a' c c' vs r ((hR.ext hE).ext (hw'.trans hw'')) (hRr.ext hw'') h0 hr hc)
      show Calls Try.prog 171 #[.slice a' r.length c', .pointer (some ⟨w.heap.size, 0, none⟩)] w' _
      go_enter Try.func171, Try.ntmps171
      go_wp2_with fail
      refine (HC.out _ (by repeat (first | exact Ext.refl _ | assumption | refine Ext.alloc ?_ _ | refine Ext.drew ?_ | refine Ext.trans ?_ (by assumption)))).mono ?_
      rintro e w1 ⟨rfl, hw1⟩
      go_wp2
      go_ret
      exact ⟨rfl, hw1⟩)
  have HC := hide hl
  have HK : Hid (kemO n vs = (lstR (kemV vs) n).1) := hide (by simp [kemO, lstO, h0])
  clear hl h0
  go_enter Try.func79, Try.ntmps79
  go_wp2_with fail
  refine HC.out.mono ?_
  rintro e w1 ⟨v, rfl, hv, hw1⟩
  go_wp2
  go_ret
  exact ⟨_, rfl, by rw [HK.out]; exact hv.base (by simp), hE.trans hw1⟩

set_option maxRecDepth 100000 in
set_option maxHeartbeats 1000000 in
theorem sla_impl (w : World) (sz : Int) (a : Option Addr) (c : Nat) (vs : List Vt) (hR : RdV w a vs) :
    Calls Try.prog 82 #[.agg #[.int .i64 sz, .slice a vs.length c]] w fun e w' => ∃ v, e = .returned (.tuple #[v, .int .i64 (slaW sz vs)]) ∧ OwnI w' w.heap.size v (slaO sz vs) ∧ Ext w w' := by
  have q0 := new0 w (.int .i64 sz) [.slice a vs.length c] 47
  have q1 := new1 w (.int .i64 sz) (.slice a vs.length c) [] 47
  cases h0 : profOk sz vs
  · go_enter Try.func82, Try.ntmps82
    go_wp2_with (go_at_call 35; refine (prof_impl _ _ _ _ _ (hR.ext (by repeat (first | exact Ext.refl _ | assumption | refine Ext.alloc ?_ _ | refine Ext.drew ?_ | refine Ext.trans ?_ (by assumption))))).mono ?_; rintro e w1 ⟨rfl, hw1⟩; have q0 := Ext.keep (w' := w1) (by repeat (first | exact Ext.refl _ | assumption | refine Ext.alloc ?_ _ | refine Ext.drew ?_ | refine Ext.trans ?_ (by assumption))) q0; have q1 := Ext.keep (w' := w1) (by repeat (first | exact Ext.refl _ | assumption | refine Ext.alloc ?_ _ | refine Ext.drew ?_ | refine Ext.trans ?_ (by assumption))) q1)
    go_ret2
    exact ⟨.slice none 0 0, by simp [slaW, h0], by simp [slaO, lstO, h0]; exact OwnI.nil _ _, (by repeat (first | exact Ext.refl _ | assumption | refine Ext.alloc ?_ _ | refine Ext.drew ?_ | refine Ext.trans ?_ (by assumption)))⟩
  obtain ⟨n, rfl, n1, n2⟩ := prof_nat h0
  have HS := hide (prof_small h0)
  have HK : Hid (slaO n vs = (lstR (slaN vs) n).1 ∧ slaW n vs = (lstR (slaN vs) n).2.1) := hide (by simp [slaO, slaW, lstO, h0])
  go_enter Try.func82, Try.ntmps82
  go_wp2_with (go_at_call 35; refine (prof_impl _ _ _ _ _ (hR.ext (by repeat (first | exact Ext.refl _ | assumption | refine Ext.alloc ?_ _ | refine Ext.drew ?_ | refine Ext.trans ?_ (by assumption))))).mono ?_; rintro e w1 ⟨rfl, hw1⟩; have q0 := Ext.keep (w' := w1) (by repeat (first | exact Ext.refl _ | assumption | refine Ext.alloc ?_ _ | refine Ext.drew ?_ | refine Ext.trans ?_ (by assumption))) q0; have q1 := Ext.keep (w' := w1) (by repeat (first | exact Ext.refl _ | assumption | refine Ext.alloc ?_ _ | refine Ext.drew ?_ | refine Ext.trans ?_ (by assumption))) q1)
  have hw : Ext w w1 := (by repeat (first | exact Ext.refl _ | assumption | refine Ext.alloc ?_ _ | refine Ext.drew ?_ | refine Ext.trans ?_ (by assumption)))
  have hl := least_impl 175 #[] #[.pointer (some ⟨w.heap.size, 0, none⟩)] (slaN vs) w1 n a c vs (hR.ext hw) h0 n1 n2 Try.call175
    (fun r a' c' w' hr hc hRr hw' => by
      have r0 := hw'.keep q0
      have r1 := hw'.keep q1
      have HC := hide (fun w'' (hw'' : Ext w' w'') => back_impl 138 #[.agg #[.int .i64 n, .slice a vs.length c]] #[] (fun y x => beatsV vs y x) w'' n a vs.length c a' c' r (hRr.ext hw'') (rk_len hr).2 hc Try.call138
        (fun x y w3 _ _ hw3 => beats_impl w3 n a c vs x y ((hR.ext hw).ext (hw'.trans (hw''.trans hw3))) HS.out))
      show Calls Try.prog 175 #[.slice a' r.length c', .pointer (some ⟨w.heap.size, 0, none⟩)] w' _
      go_enter Try.func175, Try.ntmps175
      go_wp2_with fail
      refine (HC.out _ (by repeat (first | exact Ext.refl _ | assumption | refine Ext.alloc ?_ _ | refine Ext.drew ?_ | refine Ext.trans ?_ (by assumption)))).mono ?_
      rintro e w1 ⟨rfl, hw1⟩
      go_wp2
      go_ret
      exact ⟨rfl, hw1⟩)
  have HC := hide hl
  clear hl h0
  refine HC.out.mono ?_
  rintro e w2 ⟨v, rfl, hv, hw2⟩
  have hws := hw.size
  go_wp2
  go_ret2
  exact ⟨_, (by rw [HK.out.2]; rfl), by rw [HK.out.1]; exact hv.base hws, hw.trans hw2⟩

set_option maxRecDepth 100000 in
theorem rk_perm_ok {m : Int} {xs ys : List Int} (h : ys.Perm xs) (hr : rkOk m xs = true) : rkOk m ys = true := by
  have hl := h.length_eq
  unfold rkOk at hr ⊢
  simp only [Bool.and_eq_true, decide_eq_true_eq, List.all_eq_true] at hr ⊢
  obtain ⟨h1, h2, h3, h4⟩ := hr
  exact ⟨h1, by omega, fun x hx => h3 x (h.mem_iff.1 hx), h.nodup_iff.2 h4⟩
/-- One place up. -/
def raiseL (xs : List Int) (i : Nat) : List Int := (xs.set (i - 1) (xs.getD i 0)).set i (xs.getD (i - 1) 0)
set_option maxRecDepth 100000 in
theorem raise_len (xs : List Int) (i : Nat) : (raiseL xs i).length = xs.length := by unfold raiseL; rw [List.length_set, List.length_set]
set_option maxRecDepth 100000 in
theorem raise_ok {m : Int} {xs : List Int} {i : Nat} (hr : rkOk m xs = true) (hi : i < xs.length) : rkOk m (raiseL xs i) = true := by
  refine rk_perm_ok ?_ hr
  unfold raiseL
  have h1 : xs.getD i 0 = xs[i] := by simp [List.getD, List.getElem?_eq_getElem hi]
  have hi2 : i - 1 < xs.length := by omega
  have h2 : xs.getD (i - 1) 0 = xs[i - 1] := by simp [List.getD, List.getElem?_eq_getElem hi2]
  rw [h1, h2]
  exact List.set_set_perm hi2 hi
set_option maxRecDepth 100000 in
theorem raise_at {xs : List Int} {i : Nat} (h1 : 1 ≤ i) (hi : i < xs.length) (j : Nat) (hj : j < xs.length) : (raiseL xs i).getD j 0 = if j = i then xs.getD (i - 1) 0 else if j = i - 1 then xs.getD i 0 else xs.getD j 0 := by
  unfold raiseL
  rw [List.getD_eq_getElem?_getD, List.getElem?_set]
  by_cases e : j = i
  · subst e
    rw [if_pos rfl, if_pos rfl, List.length_set, if_pos hj]; rfl
  · rw [if_neg (fun h => e h.symm), if_neg e, List.getElem?_set]
    by_cases e2 : j = i - 1
    · rw [if_pos e2.symm, if_pos e2, if_pos (by omega)]; rfl
    · rw [if_neg (fun h => e2 h.symm), if_neg e2, List.getD_eq_getElem?_getD]
/-- A number without a candidate. -/
def dropV (a x : Int) : List Int := if x < a then [x] else if a < x then [x - 1] else []
def dropL (a : Int) (xs : List Int) : List Int := xs.flatMap (dropV a)
set_option maxRecDepth 100000 in
theorem dropL_at {a : Int} {xs : List Int} {k : Nat} {x : Int} (hx : xs[k]? = some x) : dropL a (xs.take (k + 1)) = dropL a (xs.take k) ++ dropV a x := by rw [take_at hx]; simp [dropL]
set_option maxRecDepth 100000 in
theorem dropL_len (a : Int) : ∀ xs : List Int, (dropL a xs).length ≤ xs.length
  | [] => by simp [dropL]
  | x :: xs => by
    have ih := dropL_len a xs
    have h1 : (dropV a x).length ≤ 1 := by
      unfold dropV
      split
      · simp
      · split <;> simp
    have e : dropL a (x :: xs) = dropV a x ++ dropL a xs := by unfold dropL; rw [List.flatMap_cons]
    rw [e, List.length_append, List.length_cons]
    omega
def downV (a b : Int) : Int := if a < b then b - 1 else b
set_option maxRecDepth 100000 in
theorem dropL_filter (a : Int) : ∀ xs : List Int, dropL a xs = (xs.filter (fun y => !(y == a))).map (downV a)
  | [] => rfl
  | x :: xs => by
    have ih := dropL_filter a xs
    unfold dropL at ih ⊢
    rw [List.flatMap_cons, ih, List.filter_cons]
    unfold dropV downV
    rcases Int.lt_trichotomy x a with h | h | h
    · have hb : (x == a) = false := by rw [beq_eq_false_iff_ne]; omega
      rw [if_pos h, hb]
      simp; omega
    · subst h
      simp
    · have hb : (x == a) = false := by rw [beq_eq_false_iff_ne]; omega
      rw [if_neg (by omega), if_pos h, hb]
      simp; omega
set_option maxRecDepth 100000 in
theorem dropL_erase {a : Int} {xs : List Int} {i : Nat} (hd : xs.Nodup) (hi : xs[i]? = some a) : dropL a xs = (xs.eraseIdx i).map (downV a) := by rw [dropL_filter, erase_filter hd hi]
/-- Votes of which each ranking is changed. -/
def mapV (F : List Int → List Int) (vs : List Vt) : List Vt := vs.map (fun x => (F x.1, x.2))
set_option maxRecDepth 100000 in
theorem mapV_len (F : List Int → List Int) (vs : List Vt) : (mapV F vs).length = vs.length := by unfold mapV; rw [List.length_map]
/-- The first number below n of which something holds, or -1. -/
def firstN (n : Nat) (q : Nat → Bool) : Int := match (List.range n).find? q with | some k => (k : Int) | none => -1
set_option maxRecDepth 100000 in
theorem firstN_some {n k : Nat} {q : Nat → Bool} (hk : k < n) (h1 : ∀ j, j < k → q j = false) (h2 : q k = true) : firstN n q = k := by
  unfold firstN
  have : (List.range n).find? q = some k := by
    rw [List.find?_range_eq_some]
    exact ⟨h2, List.mem_range.2 hk, fun j hj => by simpa using h1 j hj⟩
  rw [this]
set_option maxRecDepth 100000 in
theorem firstN_none {n : Nat} {q : Nat → Bool} (h : ∀ j, j < n → q j = false) : firstN n q = -1 := by
  unfold firstN
  have : (List.range n).find? q = none := by
    rw [List.find?_eq_none]
    intro x hx
    rw [h x (List.mem_range.1 hx)]; decide
  rw [this]
set_option maxRecDepth 100000 in
theorem none_succ {q : Nat → Bool} {k : Nat} (h : ∀ j, j < k → q j = false) (hk : q k = false) : ∀ j, j < k + 1 → q j = false := fun j hj => by
  rcases Nat.lt_succ_iff_lt_or_eq.1 hj with h1 | rfl
  · exact h j h1
  · exact hk

end Go.Proofs.Ythiojkpoeejkaaa
