/- Pair counts, margins, beats and covering as the two sides give them. Covering and transitivity. Candidates picked out by a relation to all others. How many each candidate beats, and how many beat it. The matrix of margins. The table of places. Condorcet winner and loser, the unbeaten. How many rank a candidate among the first k. -/
import Derived.Test.YtfmeklgdaabooaaGreatDoorCn4
import Derived.Test.YtfmeklgdaabooaaGreatDoorCn0
import Derived.Test.YtfmeklgdaabooaaGreatDoorCn2
import Derived.Test.YtfmeklgdaabooaaGreatDoorCn3
namespace Go.Proofs.YtfmeklgdaabooaaGreatDoor
open Go.RowKit

def pairO (sz : Int) (vs : List Vt) (x y : Int) : Int := if profOk sz vs && (hasB sz x && hasB sz y) then pairV vs x y else -1
def marginO (sz : Int) (vs : List Vt) (x y : Int) : Int := if profOk sz vs && (hasB sz x && hasB sz y) then marginV vs x y else 0

set_option maxRecDepth 100000 in
set_option maxHeartbeats 1000000 in
theorem margin_impl (w : World) (sz : Int) (a : Option Addr) (c : Nat) (vs : List Vt) (x y : Int) (hR : RdV w a vs) (hS : SmallV sz vs) :
    Calls Tryz.prog 74 #[.agg #[.int .i64 sz, .slice a vs.length c], .int .i64 x, .int .i64 y] w fun e w' => e = .returned (.int .i64 (marginV vs x y)) ∧ Ext w w' := by
  have b1 : 0 ≤ pairV vs x y ∧ pairV vs x y ≤ 24000 := sumV_bd' hS
  have b2 : 0 ≤ pairV vs y x ∧ pairV vs y x ≤ 24000 := sumV_bd' hS
  have q0 := new0 w (.int .i64 sz) [.slice a vs.length c] 26
  have q1 := new1 w (.int .i64 sz) (.slice a vs.length c) [] 26
  have w1 : wrap64 (pairV vs x y - pairV vs y x) = marginV vs x y := by rw [IntWalk.wrap64_in _ (by omega)]; rfl
  have w2 : IntKind.i64.wrap (pairV vs x y - pairV vs y x) = marginV vs x y := by rw [IntWalk.i64_left]; exact w1
  have HS := hide hS
  clear hS
  go_enter Tryz.func74, Tryz.ntmps74
  go_wp2
  refine wp_region_X (by kernel_rfl) (by kernel_rfl) ?_
  repeat' (refine wpX_stepQ (fun K hK => ?_)
           go_simp
           try (rw [if_neg (by intro h; simp [undef] at h)])
           try split
           all_goals
             first
             | (refine hK _ ?_
                clear hK K)
             | (apply Exists.intro
                refine ⟨fun wq hwq => ?_, hK _ ?_⟩
                · have hcq := hwq.cellS
                  go_simp
                  first
                  | exact ⟨Ext.refl _, rfl⟩
                  | exact ⟨Ext.refl _, pairI_impl _ _ _ _ _ _ _ (hR.ext (by repeat (first | exact Ext.refl _ | assumption | refine Ext.alloc ?_ _ | refine Ext.drew ?_ | refine Ext.trans ?_ (by assumption)))) HS.out⟩
                  | exact ⟨Ext.refl _, pairI_impl _ _ _ _ _ _ _ (hR.ext (by repeat (first | exact Ext.refl _ | assumption | refine Ext.alloc ?_ _ | refine Ext.drew ?_ | refine Ext.trans ?_ (by assumption)))) HS.out⟩
                clear hK K))
  refine wpX_nil (fun wz hwz => ?_)
  go_wp2
  go_ret
  exact ⟨rfl, (by repeat (first | exact Ext.refl _ | assumption | refine Ext.alloc ?_ _ | refine Ext.drew ?_ | refine Ext.trans ?_ (by assumption)))⟩

set_option maxRecDepth 100000 in
set_option maxHeartbeats 1000000 in
theorem beats_impl (w : World) (sz : Int) (a : Option Addr) (c : Nat) (vs : List Vt) (x y : Int) (hR : RdV w a vs) (hS : SmallV sz vs) :
    Calls Tryz.prog 79 #[.agg #[.int .i64 sz, .slice a vs.length c], .int .i64 x, .int .i64 y] w fun e w' => e = .returned (.bool (beatsV vs x y)) ∧ Ext w w' := by
  have HS := hide hS
  clear hS
  go_enter Tryz.func79, Tryz.ntmps79
  go_wp2_with (go_at_call 74; refine (margin_impl _ _ _ _ _ _ _ (hR.ext (by repeat (first | exact Ext.refl _ | assumption | refine Ext.alloc ?_ _ | refine Ext.drew ?_ | refine Ext.trans ?_ (by assumption)))) HS.out).mono ?_; rintro e w1 ⟨rfl, hw1⟩)
  go_ret
  exact ⟨ret_bool (by simp [beatsV, marginV]), (by repeat (first | exact Ext.refl _ | assumption | refine Ext.alloc ?_ _ | refine Ext.drew ?_ | refine Ext.trans ?_ (by assumption)))⟩

def allN (n : Nat) (p : Nat → Bool) : Bool := (List.range n).all p
set_option maxRecDepth 100000 in
theorem allN_t {n : Nat} {p : Nat → Bool} (h : ∀ j, j < n → p j = true) : allN n p = true := by
  unfold allN; rw [List.all_eq_true]; intro x hx; exact h x (List.mem_range.1 hx)
set_option maxRecDepth 100000 in
theorem allN_f {n : Nat} {p : Nat → Bool} {k : Nat} (hk : k < n) (h : p k = false) : allN n p = false := by
  unfold allN; rw [List.all_eq_false]; exact ⟨k, List.mem_range.2 hk, by simp [h]⟩
set_option maxRecDepth 100000 in
theorem upto_succ {p : Nat → Bool} {k : Nat} (h : ∀ j, j < k → p j = true) (hk : p k = true) : ∀ j, j < k + 1 → p j = true := fun j hj => by
  rcases Nat.lt_succ_iff_lt_or_eq.1 hj with h1 | rfl
  · exact h j h1
  · exact hk

def coversP (vs : List Vt) (a b : Int) (z : Nat) : Bool := !(beatsV vs z a && !beatsV vs z b)
def coversV (n : Nat) (vs : List Vt) (a b : Int) : Bool := beatsV vs a b && allN n (coversP vs a b)

def coverO (sz : Int) (vs : List Vt) (x y : Int) : Bool := profOk sz vs && (hasB sz x && (hasB sz y && coversV sz.toNat vs x y))
set_option maxRecDepth 100000 in
theorem prof_nat {sz : Int} {vs : List Vt} (h : profOk sz vs = true) : ∃ n : Nat, sz = n ∧ 1 ≤ n ∧ n ≤ 5 := by
  have := prof_size h
  exact ⟨sz.toNat, by omega, by omega, by omega⟩

def upL (n : Nat) (q : Nat → Bool) : List Int := ((List.range n).filter q).map (fun i : Nat => (i : Int))
set_option maxRecDepth 100000 in
theorem upL_succ (n : Nat) (q : Nat → Bool) : upL (n + 1) q = upL n q ++ if q n then [(n : Int)] else [] := by
  unfold upL
  rw [List.range_succ, List.filter_append, List.map_append]
  cases h : q n <;> simp [h]
set_option maxRecDepth 100000 in
theorem upL_len (n : Nat) (q : Nat → Bool) : (upL n q).length ≤ n := by
  unfold upL
  rw [List.length_map]
  exact Nat.le_trans (List.length_filter_le _ _) (by simp)
set_option maxRecDepth 100000 in
theorem upL_congr {n : Nat} {q q' : Nat → Bool} (h : ∀ i, i < n → q i = q' i) : upL n q = upL n q' := by
  unfold upL
  congr 1
  exact List.filter_congr (fun x hx => h x (List.mem_range.1 hx))
set_option maxRecDepth 100000 in
theorem allN_succ (n : Nat) (p : Nat → Bool) : allN (n + 1) p = (allN n p && p n) := by
  unfold allN; rw [List.range_succ, List.all_append]; simp

def thoseP (n : Nat) (p : Nat → Nat → Bool) (i : Nat) : Bool := allN n (fun j => decide (i = j) || p i j)
def thoseO (sz : Int) (vs : List Vt) (p : Nat → Nat → Bool) : List Int := if profOk sz vs then upL sz.toNat (thoseP sz.toNat p) else []

set_option maxRecDepth 100000 in
set_option maxHeartbeats 4000000 in
theorem those_impl (K : Nat) (cap : Array Value) (p : Nat → Nat → Bool) (w : World) (sz : Int) (a : Option Addr) (c : Nat) (vs : List Vt) (hR : RdV w a vs) (hK : Enters Tryz.prog K)
    (hf : ∀ (n i j : Nat) (w' : World), sz = n → n ≤ 5 → SmallV n vs → i < n → j < n → Ext w w' → Calls Tryz.prog K (#[.int .i64 i, .int .i64 j] ++ cap) w' fun e w'' => e = .returned (.bool (p i j)) ∧ Ext w' w'') :
    Calls Tryz.prog 89 #[.agg #[.int .i64 sz, .slice a vs.length c], .func (.func K) #[] cap] w fun e w' => ∃ v, e = .returned v ∧ OwnI w' w.heap.size v (thoseO sz vs p) ∧ Ext w w' := by
  unfold Enters at hK
  have q0 := new0 w (.int .i64 sz) [.slice a vs.length c] 26
  have q1 := new1 w (.int .i64 sz) (.slice a vs.length c) [] 26
  have HF := hide hf
  clear hf
  cases h0 : profOk sz vs
  · go_enter Tryz.func89, Tryz.ntmps89
    go_wp2_with (go_at_call 25; refine (prof_impl _ _ _ _ _ (hR.ext (by repeat (first | exact Ext.refl _ | assumption | refine Ext.alloc ?_ _ | refine Ext.drew ?_ | refine Ext.trans ?_ (by assumption))))).mono ?_; rintro e w1 ⟨rfl, hw1⟩; have q0 := Ext.keep (w' := w1) (by repeat (first | exact Ext.refl _ | assumption | refine Ext.alloc ?_ _ | refine Ext.drew ?_ | refine Ext.trans ?_ (by assumption))) q0; have q1 := Ext.keep (w' := w1) (by repeat (first | exact Ext.refl _ | assumption | refine Ext.alloc ?_ _ | refine Ext.drew ?_ | refine Ext.trans ?_ (by assumption))) q1)
    go_ret
    exact ⟨_, rfl, by simp [thoseO, h0]; exact OwnI.nil _ _, (by repeat (first | exact Ext.refl _ | assumption | refine Ext.alloc ?_ _ | refine Ext.drew ?_ | refine Ext.trans ?_ (by assumption)))⟩
  obtain ⟨n, rfl, n1, n2⟩ := prof_nat h0
  have HS := hide (prof_small h0)
  go_enter Tryz.func89, Tryz.ntmps89
  go_wp2_with (go_at_call 25; refine (prof_impl _ _ _ _ _ (hR.ext (by repeat (first | exact Ext.refl _ | assumption | refine Ext.alloc ?_ _ | refine Ext.drew ?_ | refine Ext.trans ?_ (by assumption))))).mono ?_; rintro e w1 ⟨rfl, hw1⟩; have q0 := Ext.keep (w' := w1) (by repeat (first | exact Ext.refl _ | assumption | refine Ext.alloc ?_ _ | refine Ext.drew ?_ | refine Ext.trans ?_ (by assumption))) q0; have q1 := Ext.keep (w' := w1) (by repeat (first | exact Ext.refl _ | assumption | refine Ext.alloc ?_ _ | refine Ext.drew ?_ | refine Ext.trans ?_ (by assumption))) q1)
  have hw : Ext w w1 := (by repeat (first | exact Ext.refl _ | assumption | refine Ext.alloc ?_ _ | refine Ext.drew ?_ | refine Ext.trans ?_ (by assumption)))
  obtain ⟨W0, rfl⟩ : ∃ W0 : World, W0 = w1 := ⟨_, rfl⟩
  go_loopw [5, 6, 7, 8, 14, 18, 19] (fun v _ _ _ i _ _ wr => ∃ k : Nat, k ≤ n ∧ i = .int .i64 k ∧ OwnI wr W0.heap.size v (upL k (thoseP n p)) ∧ Ext W0 wr) (fun _ _ _ _ i _ _ _ => n - (intOf i).toNat)
  case atStart => exact ⟨0, Nat.zero_le _, rfl, OwnI.nil _ _, Ext.refl _⟩
  case round =>
    obtain ⟨i, hi, rfl, hown, hwr⟩ := hrel
    have q0' := hwr.keep q0
    by_cases hit : i < n
    · go_wp2
      obtain ⟨wo, hwo⟩ : ∃ wo : World, wo = wr := ⟨_, rfl⟩
      subst hwo
      go_loopw [7, 8, 19] (fun b _ m wr => ∃ k : Nat, k ≤ n ∧ m = .int .i64 k ∧ b = .bool (allN k (fun j => decide (i = j) || p i j)) ∧ Ext wo wr) (fun _ _ m _ => n - (intOf m).toNat)
      case atStart => exact ⟨0, Nat.zero_le _, rfl, rfl, Ext.refl _⟩
      case round =>
        obtain ⟨k, hk, rfl, rfl, hwr'⟩ := hrel
        have q0' := hwr'.keep q0'
        by_cases hlt : k < n
        · cases h1 : allN k (fun j => decide (i = j) || p i j)
          · go_wp2
            exact ⟨⟨k + 1, by omega, by go_num, by rw [allN_succ, h1]; simp, (by repeat (first | exact Ext.refl _ | assumption | refine Ext.alloc ?_ _ | refine Ext.drew ?_ | refine Ext.trans ?_ (by assumption)))⟩, by simp [intOf]; omega⟩
          · by_cases e : i = k
            · have e' : (i : Int) = (k : Int) := by omega
              go_wp2
              exact ⟨⟨k + 1, by omega, by go_num, by rw [allN_succ, h1]; simp [e], (by repeat (first | exact Ext.refl _ | assumption | refine Ext.alloc ?_ _ | refine Ext.drew ?_ | refine Ext.trans ?_ (by assumption)))⟩, by simp [intOf]; omega⟩
            · have e' : ¬ (i : Int) = (k : Int) := by omega
              go_wp2_with fail
              refine (HF.out n i k _ rfl n2 HS.out hit hlt (by repeat (first | exact Ext.refl _ | assumption | refine Ext.alloc ?_ _ | refine Ext.drew ?_ | refine Ext.trans ?_ (by assumption)))).mono ?_
              rintro e w1 ⟨rfl, hw1⟩
              go_wp2
              exact ⟨⟨k + 1, by omega, by go_num, by rw [allN_succ, h1]; simp [e, e'], (by repeat (first | exact Ext.refl _ | assumption | refine Ext.alloc ?_ _ | refine Ext.drew ?_ | refine Ext.trans ?_ (by assumption)))⟩, by simp [intOf]; omega⟩
        · obtain rfl : k = n := by omega
          have hown := hown.ext hwr'
          have HT : allN k (fun j => decide (i = j) || p i j) = thoseP k p i := rfl
          rw [HT]
          cases h1 : thoseP k p i
          · go_wp2
            exact ⟨⟨i + 1, by omega, by go_num, by rw [upL_succ, h1]; simpa using hown, (by repeat (first | exact Ext.refl _ | assumption | refine Ext.alloc ?_ _ | refine Ext.drew ?_ | refine Ext.trans ?_ (by assumption)))⟩, by simp [intOf]; omega⟩
          · go_wp2_with (at_builtin; refine wpList_appI W0 _ rfl _ _ rfl _ (upL i (thoseP k p)) _ rfl (hown.ext (by repeat (first | exact Ext.refl _ | assumption | refine Ext.alloc ?_ _ | refine Ext.drew ?_ | refine Ext.trans ?_ (by assumption)))) (by repeat (first | exact Ext.refl _ | assumption | refine Ext.alloc ?_ _ | refine Ext.drew ?_ | refine Ext.trans ?_ (by assumption))) rfl (by have := upL_len i (thoseP k p); omega) ?_; intro v' w3 hown3 hw3)
            exact ⟨⟨i + 1, by omega, by go_num, by rw [upL_succ, h1]; exact hown3, (by repeat (first | exact Ext.refl _ | assumption | refine Ext.alloc ?_ _ | refine Ext.drew ?_ | refine Ext.trans ?_ (by assumption)))⟩, by simp [intOf]; omega⟩
    · obtain rfl : i = n := by omega
      go_wp2
      go_ret
      exact ⟨_, rfl, by simp [thoseO, h0]; exact hown.base hw.size, hw.trans hwr⟩

def onlyL (xs : List Int) : Int := match xs with | [x] => x | _ => -1

def cntN (n : Nat) (q : Nat → Bool) : Nat := (List.range n).countP q
set_option maxRecDepth 100000 in
theorem cntN_succ (n : Nat) (q : Nat → Bool) : cntN (n + 1) q = cntN n q + if q n then 1 else 0 := by
  unfold cntN
  rw [List.range_succ, List.countP_append, List.countP_singleton]
set_option maxRecDepth 100000 in
theorem cntN_le (n : Nat) (q : Nat → Bool) : cntN n q ≤ n := by
  have := List.countP_le_length (p := q) (l := List.range n)
  unfold cntN
  simpa using this
set_option maxRecDepth 100000 in
theorem cntN_zero (q : Nat → Bool) : cntN 0 q = 0 := by simp [cntN]
def rowL (n : Nat) (f : Nat → Int) : List Int := (List.range n).map f
set_option maxRecDepth 100000 in
theorem rowL_len (n : Nat) (f : Nat → Int) : (rowL n f).length = n := by simp [rowL]
set_option maxRecDepth 100000 in
theorem rowL_at {n : Nat} {f : Nat → Int} {j : Nat} (h : j < n) : (rowL n f)[j]? = some (f j) := by simp [rowL, h]
set_option maxRecDepth 100000 in
theorem rowL_val {n : Nat} {f : Nat → Int} {j : Nat} {x : Int} (h : (rowL n f)[j]? = some x) : j < n ∧ x = f j := by
  have hj := lt_of_at h
  rw [rowL_len] at hj
  rw [rowL_at hj] at h
  injection h with h
  exact ⟨hj, h.symm⟩
set_option maxRecDepth 100000 in
theorem rowL_succ (n : Nat) (f : Nat → Int) : rowL (n + 1) f = rowL n f ++ [f n] := by simp [rowL, List.range_succ]
set_option maxRecDepth 100000 in
theorem rowL_congr {n : Nat} {f g : Nat → Int} (h : ∀ j, j < n → f j = g j) : rowL n f = rowL n g := by
  unfold rowL
  exact List.map_congr_left (fun x hx => h x (List.mem_range.1 hx))

/-- B: how i stands to j. The tables after the rows below i and m places of row i. -/
def tabU (n : Nat) (B : Nat → Nat → Bool) (i m o : Nat) : Nat := if o < i then cntN n (B o) else if o = i then cntN m (B i) else 0
def tabD (B : Nat → Nat → Bool) (i m o : Nat) : Nat := cntN (if o < m then i + 1 else i) (fun x => B x o)
set_option maxRecDepth 100000 in
theorem tabU_zero (n : Nat) (B : Nat → Nat → Bool) (o : Nat) : tabU n B 0 0 o = 0 := by
  unfold tabU; rw [if_neg (by omega)]; split <;> simp [cntN]
set_option maxRecDepth 100000 in
theorem tabD_zero (B : Nat → Nat → Bool) (o : Nat) : tabD B 0 0 o = 0 := by
  unfold tabD; rw [if_neg (by omega)]; simp [cntN]
set_option maxRecDepth 100000 in
theorem tabU_at (n : Nat) (B : Nat → Nat → Bool) (i m : Nat) : tabU n B i m i = cntN m (B i) := by
  unfold tabU; rw [if_neg (by omega), if_pos rfl]
set_option maxRecDepth 100000 in
theorem tabD_at (B : Nat → Nat → Bool) (i m : Nat) : tabD B i m m = cntN i (fun x => B x m) := by
  unfold tabD; rw [if_neg (by omega)]
set_option maxRecDepth 100000 in
theorem tabU_step (n : Nat) (B : Nat → Nat → Bool) (i m o : Nat) : tabU n B i (m + 1) o = tabU n B i m o + if o = i then (if B i m then 1 else 0) else 0 := by
  unfold tabU
  by_cases h1 : o < i
  · rw [if_pos h1, if_pos h1, if_neg (by omega)]; rfl
  · by_cases h2 : o = i
    · rw [if_neg h1, if_neg h1, if_pos h2, if_pos h2, if_pos h2, cntN_succ]
    · rw [if_neg h1, if_neg h1, if_neg h2, if_neg h2, if_neg h2]
set_option maxRecDepth 100000 in
theorem tabD_step (B : Nat → Nat → Bool) (i m o : Nat) : tabD B i (m + 1) o = tabD B i m o + if o = m then (if B i m then 1 else 0) else 0 := by
  unfold tabD
  by_cases h1 : o < m
  · rw [if_pos h1, if_pos (by omega), if_neg (by omega)]; rfl
  · by_cases h2 : o = m
    · subst h2; rw [if_neg h1, if_pos (by omega), if_pos rfl, cntN_succ]
    · rw [if_neg h1, if_neg (by omega), if_neg h2]; rfl
set_option maxRecDepth 100000 in
theorem tabU_done (n : Nat) (B : Nat → Nat → Bool) (i o : Nat) : tabU n B i n o = tabU n B (i + 1) 0 o := by
  unfold tabU
  by_cases h1 : o < i
  · rw [if_pos h1, if_pos (by omega)]
  · by_cases h2 : o = i
    · subst h2; rw [if_neg h1, if_pos rfl, if_pos (by omega)]
    · rw [if_neg h1, if_neg h2, if_neg (by omega)]; split <;> simp [cntN]
set_option maxRecDepth 100000 in
theorem tabD_done (n : Nat) (B : Nat → Nat → Bool) (i o : Nat) (h : o < n) : tabD B i n o = tabD B (i + 1) 0 o := by
  unfold tabD; rw [if_pos h, if_neg (by omega)]
set_option maxRecDepth 100000 in
theorem tab_le (n : Nat) (B : Nat → Nat → Bool) (i m : Nat) (hm : m ≤ n) (o : Nat) : tabU n B i m o ≤ n := by
  unfold tabU
  split
  · exact cntN_le _ _
  · split
    · exact Nat.le_trans (cntN_le _ _) hm
    · omega
def iv (x : Nat) : Value := .int .i64 (x : Int)

def bt (vs : List Vt) (i j : Nat) : Bool := beatsV vs (i : Int) (j : Int)
def upsL (n : Nat) (vs : List Vt) : List Int := rowL n (fun i => (cntN n (bt vs i) : Nat))
def dnsL (n : Nat) (vs : List Vt) : List Int := rowL n (fun j => (cntN n (fun i => bt vs i j) : Nat))

def tabL (n : Nat) (M : Nat → Nat → Int) : List (List Int) := (List.range n).map (fun i => rowL n (M i))
set_option maxRecDepth 100000 in
theorem tabL_len (n : Nat) (M : Nat → Nat → Int) : (tabL n M).length = n := by simp [tabL]
set_option maxRecDepth 100000 in
theorem tabL_at {n i : Nat} {M : Nat → Nat → Int} (h : i < n) : (tabL n M)[i]? = some (rowL n (M i)) := by simp [tabL, h]
set_option maxRecDepth 100000 in
theorem tabL_row {n : Nat} {M : Nat → Nat → Int} {x : List Int} (h : x ∈ tabL n M) : x.length = n := by
  unfold tabL at h
  rw [List.mem_map] at h
  obtain ⟨i, _, rfl⟩ := h
  exact rowL_len _ _
set_option maxRecDepth 100000 in
theorem tabL_bd {n : Nat} {M : Nat → Nat → Int} (hn : n ≤ 5) : (tabL n M).length ≤ 1000 ∧ ∀ x ∈ tabL n M, x.length ≤ 100 :=
  ⟨by rw [tabL_len]; omega, fun x hx => by rw [tabL_row hx]; omega⟩
/-- The first k rows. -/
def tabTo (n k : Nat) (M : Nat → Nat → Int) : List (List Int) := (List.range k).map (fun i => rowL n (M i))
set_option maxRecDepth 100000 in
theorem tabTo_succ (n k : Nat) (M : Nat → Nat → Int) : tabTo n (k + 1) M = tabTo n k M ++ [rowL n (M k)] := by simp [tabTo, List.range_succ]
set_option maxRecDepth 100000 in
theorem tabTo_len (n k : Nat) (M : Nat → Nat → Int) : (tabTo n k M).length = k := by simp [tabTo]
set_option maxRecDepth 100000 in
theorem tabTo_n (n : Nat) (M : Nat → Nat → Int) : tabTo n n M = tabL n M := rfl

def mgnV (vs : List Vt) (i j : Nat) : Int := marginV vs i j
def mgnO (sz : Int) (vs : List Vt) : List (List Int) := if profOk sz vs then tabL sz.toNat (mgnV vs) else []
set_option maxRecDepth 100000 in
theorem mgnO_bd (sz : Int) (vs : List Vt) : (mgnO sz vs).length ≤ 1000 ∧ ∀ x ∈ mgnO sz vs, x.length ≤ 100 := by
  unfold mgnO
  cases h0 : profOk sz vs
  · simp
  · obtain ⟨n, rfl, n1, n2⟩ := prof_nat h0
    simpa using tabL_bd n2

/-- Rows below i are whole, row i holds m cells, the others none. -/
def rowsT (n : Nat) (M : Nat → Nat → Int) (i m o : Nat) : List Int := if o < i then rowL n (M o) else if o = i then rowL m (M i) else []
set_option maxRecDepth 100000 in
theorem rowsT_zero (n : Nat) (M : Nat → Nat → Int) (o : Nat) : rowsT n M 0 0 o = [] := by
  unfold rowsT; rw [if_neg (by omega)]; split <;> simp [rowL]
set_option maxRecDepth 100000 in
theorem rowsT_at (n : Nat) (M : Nat → Nat → Int) (i m : Nat) : rowsT n M i m i = rowL m (M i) := by
  unfold rowsT; rw [if_neg (by omega), if_pos rfl]
set_option maxRecDepth 100000 in
theorem rowsT_far (n : Nat) (M : Nat → Nat → Int) (i m m' : Nat) {o : Nat} (h : o ≠ i) : rowsT n M i m o = rowsT n M i m' o := by
  unfold rowsT; rw [if_neg h, if_neg h]
set_option maxRecDepth 100000 in
theorem rowsT_done (n : Nat) (M : Nat → Nat → Int) (i o : Nat) : rowsT n M i n o = rowsT n M (i + 1) 0 o := by
  unfold rowsT
  by_cases h1 : o < i
  · rw [if_pos h1, if_pos (by omega)]
  · by_cases h2 : o = i
    · subst h2; rw [if_neg h1, if_pos rfl, if_pos (by omega)]
    · rw [if_neg h1, if_neg h2, if_neg (by omega)]; split <;> simp [rowL]
set_option maxRecDepth 100000 in
theorem rowsT_all {n o : Nat} (M : Nat → Nat → Int) (h : o < n) : rowsT n M n 0 o = rowL n (M o) := by
  unfold rowsT; rw [if_pos h]
set_option maxRecDepth 100000 in
theorem rowsT_begin (n : Nat) (M : Nat → Nat → Int) (i : Nat) : rowsT n M i 0 i = [] := by rw [rowsT_at]; simp [rowL]

set_option maxRecDepth 100000 in
theorem made_row (n j : Nat) (hj : j < n) : (madeCells #[Value.slice none 0 0] n).getD j undef = .slice none 0 0 := by
  have h := toList_madeCells_one (.slice none 0 0) n
  have h2 : (madeCells #[Value.slice none 0 0] n).toList[j]? = some (.slice none 0 0) := by rw [h]; simp [hj]
  rw [Array.getElem?_toList] at h2
  simp [h2]
set_option maxRecDepth 100000 in
/-- A matrix of empty rows, just made. -/
theorem Mat.made (w : World) (n : Nat) : Mat (w.alloc (.cells (madeCells #[.slice none 0 0] n) 28)) w.heap.size w.heap.size n (fun _ => .slice none 0 0) (fun _ => []) := by
  have h := BlkF.new w (madeCells #[.slice none 0 0] n) 28
  rw [size_madeCells] at h
  exact ⟨Nat.le_refl _, h.congr (fun o ho => made_row n o ho), fun o ho => OwnI.nil _ _, (fun o ho e => by cases e), (fun o o' k _ _ _ e => by cases e)⟩

set_option maxRecDepth 100000 in
theorem len_le : ∀ (n : Nat) (r : List Int), r.Nodup → (∀ x ∈ r, 0 ≤ x ∧ x < (n : Int)) → r.length ≤ n
  | 0, r, _, h => by
    cases r with
    | nil => simp
    | cons x r => have := h x (by simp); omega
  | n + 1, r, hd, h => by
    have h1 := len_le n (r.erase (n : Int)) (hd.erase _) (fun x hx => by
      have h2 := h x (List.mem_of_mem_erase hx)
      have h3 : x ≠ (n : Int) := fun e => by subst e; exact hd.not_mem_erase hx
      omega)
    by_cases hm : (n : Int) ∈ r
    · rw [List.length_erase_of_mem hm] at h1; omega
    · rw [List.erase_of_not_mem hm] at h1; omega
set_option maxRecDepth 100000 in
theorem rk_all {n : Nat} {r : List Int} (h : rkOk n r = true) {a : Nat} (ha : a < n) : (a : Int) ∈ r := by
  by_cases hm : (a : Int) ∈ r
  · exact hm
  · have h1 := len_le n ((a : Int) :: r) (List.nodup_cons.2 ⟨hm, rk_nodup h⟩) (fun x hx => by
      rcases List.mem_cons.1 hx with rfl | hx
      · omega
      · have := rk_mem h hx; omega)
    have h2 := (rk_len h).1
    simp at h1; omega
set_option maxRecDepth 100000 in
theorem nodup_inj {r : List Int} (h : r.Nodup) {i j : Nat} {x : Int} (hi : r[i]? = some x) (hj : r[j]? = some x) : i = j := by
  obtain ⟨hil, hi⟩ := List.getElem?_eq_some_iff.1 hi
  obtain ⟨hjl, hj⟩ := List.getElem?_eq_some_iff.1 hj
  rcases Nat.lt_trichotomy i j with h1 | h1 | h1
  · exact absurd (hi.trans hj.symm) (List.pairwise_iff_getElem.1 h i j hil hjl h1)
  · exact h1
  · exact absurd (hj.trans hi.symm) (List.pairwise_iff_getElem.1 h j i hjl hil h1)
set_option maxRecDepth 100000 in
/-- Where a candidate stands in a valid ranking. -/
theorem place_at {n : Nat} {r : List Int} (h : rkOk n r = true) {a : Nat} (ha : a < n) : ∃ k : Nat, k < n ∧ placeI r a = k ∧ r[k]? = some (a : Int) ∧ ∀ j, r[j]? = some (a : Int) → j = k := by
  have hm := rk_all h ha
  have hl := (rk_len h).1
  unfold placeI findI
  cases hf : r.findIdx? (fun y => (a : Int) == y) with
  | none =>
    rw [List.findIdx?_eq_none_iff] at hf
    have := hf _ hm
    simp at this
  | some k =>
    rw [List.findIdx?_eq_some_iff_getElem] at hf
    obtain ⟨hk, h1, _⟩ := hf
    have h2 : r[k]? = some (a : Int) := by rw [List.getElem?_eq_getElem hk]; simp at h1; rw [← h1]
    exact ⟨k, by omega, rfl, h2, fun j hj => nodup_inj (rk_nodup h) hj h2⟩

set_option maxRecDepth 100000 in
theorem pref_self (r : List Int) (x : Int) : prefB r x x = false := by simp [prefB]
set_option maxRecDepth 100000 in
theorem pref_tot {n : Nat} {r : List Int} (h : rkOk n r = true) {x y : Nat} (hx : x < n) (hy : y < n) (hne : x ≠ y) : prefB r x y = !prefB r y x := by
  obtain ⟨p, _, h1, h2, _⟩ := place_at h hx
  obtain ⟨q, _, h3, h4, _⟩ := place_at h hy
  have hpq : p ≠ q := fun e => by subst e; rw [h2] at h4; injection h4 with h4; omega
  unfold prefB
  rw [h1, h3]
  by_cases h5 : p < q
  · have h6 : ¬ q < p := by omega
    simp [h5, h6]
  · have h6 : q < p := by omega
    simp [h5, h6]

def plcP (a k : Nat) (r : List Int) : Bool := r[k]? == some (a : Int)
def plcV (vs : List Vt) (a k : Nat) : Int := sumV (plcP a k) vs
def plcO (sz : Int) (vs : List Vt) : List (List Int) := if profOk sz vs then tabL sz.toNat (plcV vs) else []
set_option maxRecDepth 100000 in
theorem plcO_bd (sz : Int) (vs : List Vt) : (plcO sz vs).length ≤ 1000 ∧ ∀ x ∈ plcO sz vs, x.length ≤ 100 := by
  unfold plcO
  cases h0 : profOk sz vs
  · simp
  · obtain ⟨n, rfl, n1, n2⟩ := prof_nat h0
    simpa using tabL_bd n2

set_option maxRecDepth 100000 in
theorem OwnI.made (w : World) (n : Nat) (hn : n ≤ 2000000) : OwnI (w.alloc (.cells (madeCells #[.int .i64 0] n) 3)) w.heap.size (.slice (some ⟨w.heap.size, 0, none⟩) n n) (rowL n (fun _ => 0)) := by
  have h := World.ownsRow_lit (base := w.heap.size) (e := 3) (size := 1) w (madeCells #[.int .i64 0] n) n (Nat.le_refl _) (by unfold maxLen; omega) (by rw [size_madeCells]; omega)
  unfold OwnI
  have e : (rowL n (fun _ => 0)).map (Value.int .i64) = (madeCells #[Value.int .i64 0] n).toList := by
    have h0 := toList_madeCells_one (.int .i64 0) n
    have h1 : (madeCells #[Value.int .i64 0] n).toList = List.replicate n (.int .i64 0) := h0
    rw [h1]
    apply List.ext_getElem?
    intro j
    by_cases hj : j < n
    · simp [rowL, hj]
    · simp [rowL, hj]
  rw [rowL_len, e]
  exact h
set_option maxRecDepth 100000 in
theorem rowL_set {n : Nat} {f g : Nat → Int} {k : Nat} {y : Int} (hg : ∀ j, j < n → g j = if j = k then y else f j) : (rowL n f).set k y = rowL n g := by
  apply List.ext_getElem?
  intro j
  by_cases hj : j < n
  · by_cases e : k = j
    · subst e
      rw [List.getElem?_set_self (by rw [rowL_len]; exact hj), rowL_at hj, hg k hj, if_pos rfl]
    · rw [List.getElem?_set_ne e, rowL_at hj, rowL_at hj, hg j hj, if_neg (Ne.symm e)]
  · rw [List.getElem?_eq_none (by rw [List.length_set, rowL_len]; omega), List.getElem?_eq_none (by rw [rowL_len]; omega)]

def fullI (xs : List Int) : Int := findI (fun x => x == (xs.length : Int) - 1) xs

set_option maxRecDepth 100000 in
theorem allN_iff {n : Nat} {p : Nat → Bool} : allN n p = true ↔ ∀ j, j < n → p j = true := by
  unfold allN; rw [List.all_eq_true]
  exact ⟨fun h j hj => h j (List.mem_range.2 hj), fun h x hx => h x (List.mem_range.1 hx)⟩
set_option maxRecDepth 100000 in
theorem cntN_all {n : Nat} {p : Nat → Bool} : cntN n p = n ↔ allN n p = true := by
  rw [allN_iff]
  unfold cntN
  have h := List.countP_eq_length (p := p) (l := List.range n)
  rw [List.length_range] at h
  rw [h]
  exact ⟨fun h j hj => h j (List.mem_range.2 hj), fun h x hx => h x (List.mem_range.1 hx)⟩
set_option maxRecDepth 100000 in
theorem cntN_none {n : Nat} {p : Nat → Bool} : cntN n p = 0 ↔ allN n (fun j => !p j) = true := by
  rw [allN_iff]
  unfold cntN
  rw [List.countP_eq_zero]
  exact ⟨fun h j hj => by have := h j (List.mem_range.2 hj); simpa using this, fun h x hx => by have := h x (List.mem_range.1 hx); simpa using this⟩
set_option maxRecDepth 100000 in
theorem cntN_but (i : Nat) (q : Nat → Bool) (hi : q i = false) : ∀ k, cntN k (fun j => decide (i = j) || q j) = cntN k q + if i < k then 1 else 0
  | 0 => by simp [cntN]
  | k + 1 => by
    rw [cntN_succ, cntN_succ, cntN_but i q hi k]
    by_cases e : i = k
    · subst e
      simp [hi]
    · by_cases h : i < k
      · have h3 : i < k + 1 := by omega
        simp [e, h, h3]; omega
      · have h3 : ¬ i < k + 1 := by omega
        simp [e, h, h3]
set_option maxRecDepth 100000 in
theorem full_those {n i : Nat} {B : Nat → Nat → Bool} (hi : i < n) (h : B i i = false) : (cntN n (B i) = n - 1) ↔ thoseP n B i = true := by
  unfold thoseP
  rw [← cntN_all, cntN_but i (B i) h n, if_pos hi]
  omega
set_option maxRecDepth 100000 in
theorem upL_one {n i : Nat} {q : Nat → Bool} (hi : i < n) (h : q i = true) (hu : ∀ j, j < n → q j = true → j = i) : upL n q = [(i : Int)] := by
  have key : ∀ k, k ≤ n → upL k q = if i < k then [(i : Int)] else [] := by
    intro k
    induction k with
    | zero => intro _; simp [upL]
    | succ k ih =>
      intro hk
      rw [upL_succ, ih (by omega)]
      by_cases e : k = i
      · subst e; simp [h]
      · have hq : q k = false := by
          cases hq : q k
          · rfl
          · exact absurd (hu k (by omega) hq) e
        rw [hq]
        by_cases h2 : i < k
        · have h3 : i < k + 1 := by omega
          simp [h2, h3]
        · have h3 : ¬ i < k + 1 := by omega
          simp [h2, h3]
  rw [key n (Nat.le_refl _), if_pos hi]
set_option maxRecDepth 100000 in
theorem upL_none {n : Nat} {q : Nat → Bool} (h : ∀ j, j < n → q j = false) : upL n q = [] := by
  unfold upL
  rw [List.map_eq_nil_iff, List.filter_eq_nil_iff]
  intro x hx
  rw [h x (List.mem_range.1 hx)]; simp

set_option maxRecDepth 100000 in
theorem full_only {n : Nat} {B : Nat → Nat → Bool} (hn : 1 ≤ n) (ha : ∀ i j, B i j = true → B j i = false) :
    fullI (rowL n (fun i => (cntN n (B i) : Nat))) = onlyL (upL n (thoseP n B)) := by
  have hirr : ∀ i, B i i = false := fun i => by
    cases h : B i i
    · rfl
    · have := ha i i h
      rw [h] at this; cases this
  have hu : ∀ i j, i < n → j < n → thoseP n B i = true → thoseP n B j = true → j = i := fun i j hi hj h1 h2 => by
    by_cases e : j = i
    · exact e
    · have a1 := allN_iff.1 h1 j hj
      have a2 := allN_iff.1 h2 i hi
      simp only [Bool.or_eq_true, decide_eq_true_eq] at a1 a2
      rcases a1 with a1 | a1
      · exact a1.symm
      · rcases a2 with a2 | a2
        · exact a2
        · rw [ha i j a1] at a2; cases a2
  have hp : ∀ i, i < n → ((((cntN n (B i) : Nat) : Int) == ((n : Int) - 1)) = thoseP n B i) := fun i hi => by
    have h1 := full_those (B := B) hi (hirr i)
    cases h2 : thoseP n B i
    · have : ¬ cntN n (B i) = n - 1 := fun h => by rw [h1.1 h] at h2; cases h2
      simp; omega
    · have := h1.2 h2
      simp; omega
  unfold fullI
  rw [rowL_len]
  by_cases hex : ∃ i, i < n ∧ thoseP n B i = true
  · obtain ⟨i, hi, hq⟩ := hex
    rw [upL_one hi hq (fun j hj hj2 => hu i j hi hj hq hj2)]
    refine findI_some (rowL_at hi) ?_ (by rw [hp i hi]; exact hq)
    rw [List.all_eq_true]
    intro x hx
    obtain ⟨j, hj⟩ := List.getElem?_of_mem hx
    have hjl := lt_of_at hj
    rw [List.length_take] at hjl
    rw [List.getElem?_take_of_lt (by omega)] at hj
    obtain ⟨hjn, rfl⟩ := rowL_val hj
    rw [hp j hjn]
    cases h2 : thoseP n B j
    · rfl
    · have := hu i j hi hjn hq h2
      omega
  · have hno : ∀ j, j < n → thoseP n B j = false := fun j hj => by
      cases h : thoseP n B j
      · rfl
      · exact absurd ⟨j, hj, h⟩ hex
    rw [upL_none hno]
    refine findI_none ?_
    rw [List.all_eq_true]
    intro x hx
    obtain ⟨j, hj⟩ := List.getElem?_of_mem hx
    obtain ⟨hjn, rfl⟩ := rowL_val hj
    rw [hp j hjn, hno j hjn]; rfl

set_option maxRecDepth 100000 in
theorem bt_anti (vs : List Vt) (i j : Nat) (h : bt vs i j = true) : bt vs j i = false := by
  simp only [bt, beatsV, decide_eq_true_eq, decide_eq_false_iff_not] at *; omega

set_option maxRecDepth 100000 in
theorem sumV_nil (p : List Int → Bool) : sumV p [] = 0 := by simp [sumV]
set_option maxRecDepth 100000 in
theorem sumV_cons (p : List Int → Bool) (x : Vt) (vs : List Vt) : sumV p (x :: vs) = (if p x.1 then x.2 else 0) + sumV p vs := by
  unfold sumV
  cases h : p x.1 <;> simp [h]
set_option maxRecDepth 100000 in
theorem sumV_none : ∀ vs : List Vt, sumV (fun _ => false) vs = 0
  | [] => rfl
  | x :: vs => by rw [sumV_cons, sumV_none vs]; simp
set_option maxRecDepth 100000 in
theorem sumV_all : ∀ vs : List Vt, sumV (fun _ => true) vs = (vs.map Prod.snd).sum
  | [] => rfl
  | x :: vs => by rw [sumV_cons, sumV_all vs]; simp
set_option maxRecDepth 100000 in
theorem sumV_congr {p q : List Int → Bool} : ∀ {vs : List Vt}, (∀ x ∈ vs, p x.1 = q x.1) → sumV p vs = sumV q vs
  | [], _ => rfl
  | x :: vs, h => by rw [sumV_cons, sumV_cons, h x (by simp), sumV_congr (fun y hy => h y (by simp [hy]))]
set_option maxRecDepth 100000 in
theorem sumV_add {p q r : List Int → Bool} : ∀ {vs : List Vt}, (∀ x ∈ vs, r x.1 = (p x.1 || q x.1) ∧ (p x.1 && q x.1) = false) → sumV r vs = sumV p vs + sumV q vs
  | [], _ => by simp [sumV]
  | x :: vs, h => by
    obtain ⟨h1, h2⟩ := h x (by simp)
    rw [sumV_cons, sumV_cons, sumV_cons, h1, sumV_add (fun y hy => h y (by simp [hy]))]
    cases hp : p x.1 <;> cases hq : q x.1 <;> simp [hp, hq] at h2 ⊢ <;> omega
set_option maxRecDepth 100000 in
theorem SmallV.tail {sz : Int} {x : Vt} {vs : List Vt} (h : SmallV sz (x :: vs)) : SmallV sz vs := ⟨by have := h.1; simp at this; omega, fun y hy => h.2 y (by simp [hy])⟩

def wthP (a k : Nat) (r : List Int) : Bool := decide (placeI r a < (k : Int))
def wthV (vs : List Vt) (k a : Nat) : Int := sumV (wthP a k) vs
def sumN (f : Nat → Int) : Nat → Int
  | 0 => 0
  | k + 1 => sumN f k + f k
set_option maxRecDepth 100000 in
theorem wth_sum {n a : Nat} {vs : List Vt} (hS : SmallV n vs) (ha : a < n) : ∀ k, sumN (plcV vs a) k = wthV vs k a
  | 0 => by
    unfold sumN wthV
    rw [sumV_congr (q := fun _ => false) (fun x hx => by
      obtain ⟨p, _, hp, _⟩ := place_at (hS.2 x hx).1 ha
      simp [wthP, hp])]
    exact (sumV_none vs).symm
  | k + 1 => by
    unfold sumN
    rw [wth_sum hS ha k]
    unfold wthV plcV
    refine (sumV_add fun x hx => ?_).symm
    obtain ⟨p, _, hp, h1, h2⟩ := place_at (hS.2 x hx).1 ha
    have e : plcP a k x.1 = decide (p = k) := by
      by_cases e : p = k
      · subst e; simp [plcP, h1]
      · simp only [plcP, e, decide_false, beq_eq_false_iff_ne]
        exact fun h3 => e (h2 k h3).symm
    rw [e]
    unfold wthP
    rw [hp]
    by_cases h3 : p = k
    · have h4 : (p : Int) < ((k + 1 : Nat) : Int) := by omega
      have h5 : ¬ (p : Int) < (k : Int) := by omega
      rw [decide_eq_true h4, decide_eq_false h5, decide_eq_true h3]; simp
    · by_cases h4 : (p : Int) < (k : Int)
      · have h5 : (p : Int) < ((k + 1 : Nat) : Int) := by omega
        rw [decide_eq_true h4, decide_eq_true h5, decide_eq_false h3]; simp
      · have h5 : ¬ (p : Int) < ((k + 1 : Nat) : Int) := by omega
        rw [decide_eq_false h4, decide_eq_false h5, decide_eq_false h3]; simp
set_option maxRecDepth 100000 in
theorem sumN_bd {f : Nat → Int} {M : Int} (h : ∀ j, 0 ≤ f j ∧ f j ≤ M) : ∀ k, 0 ≤ sumN f k ∧ sumN f k ≤ M * k
  | 0 => by simp [sumN]
  | k + 1 => by
    have h1 := sumN_bd h k
    have h2 := h k
    unfold sumN
    have : M * ((k + 1 : Nat) : Int) = M * k + M := by rw [Int.natCast_succ, Int.mul_add]; simp
    omega
set_option maxRecDepth 100000 in
theorem wthV_bd {n : Int} {vs : List Vt} (hS : SmallV n vs) (k a : Nat) : 0 ≤ wthV vs k a ∧ wthV vs k a ≤ 24000 := sumV_bd' hS

set_option maxRecDepth 100000 in
/-- A row of a matrix of the call's own. -/
theorem WrSS.at_ {w : World} {B : Nat} {v : Value} {xss : List (List Int)} (h : WrSS w B v xss) {k : Nat} {xs : List Int} (hx : xss[k]? = some xs) :
    ∃ g c a' c', v = .slice (some ⟨g, 0, none⟩) xss.length c ∧ w.cell? ⟨g, k, none⟩ = some (.slice a' xs.length c') ∧ xs.length ≤ c' ∧ RdI w a' xs := by
  obtain ⟨a, c, hv, hc, ho⟩ := h
  obtain ⟨g, us, rfl, hM⟩ := ho (ne_of_at hx)
  have h1 := hM.row k (lt_of_at hx)
  simp only [List.getD, hx, Option.getD_some] at h1
  obtain ⟨a', c', hu, hc', _, hR, _⟩ := h1.val
  exact ⟨g, c, a', c', hv, by rw [hM.outer.cell k (lt_of_at hx), hu], hc', hR⟩

set_option maxRecDepth 100000 in
set_option maxHeartbeats 1000000 in
theorem wthOne (w : World) (g1 g2 i k : Nat) (a : Option Addr) (c : Nat) (xs : List Int) (h1 : w.cell? ⟨g1, 0, none⟩ = some (.int .i64 i)) (h2 : w.cell? ⟨g2, 0, none⟩ = some (.int .i64 k)) (hR : RdI w a xs) (hl : xs.length ≤ 2000000) :
    Calls Tryz.prog 118 #[.slice a xs.length c, .pointer (some ⟨g1, 0, none⟩), .pointer (some ⟨g2, 0, none⟩)] w fun e w' => e = .returned (.bool (wthP i k xs)) ∧ Ext w w' := by
  go_enter Tryz.func118, Tryz.ntmps118
  go_wp2
  refine wp_region_X (by kernel_rfl) (by kernel_rfl) ?_
  repeat' (refine wpX_stepQ (fun K hK => ?_)
           go_simp
           try (rw [if_neg (by intro h; simp [undef] at h)])
           try split
           all_goals
             first
             | (refine hK _ ?_
                clear hK K)
             | (apply Exists.intro
                refine ⟨fun wq hwq => ?_, hK _ ?_⟩
                · have hcq := hwq.cellS
                  go_simp
                  first
                  | exact ⟨Ext.refl _, rfl⟩
                  | exact ⟨Ext.refl _, place_impl _ _ _ _ _ (hR.ext (by repeat (first | exact Ext.refl _ | assumption | refine Ext.alloc ?_ _ | refine Ext.drew ?_ | refine Ext.trans ?_ (by assumption)))) hl⟩
                clear hK K))
  refine wpX_nil (fun wz hwz => ?_)
  go_wp2
  go_ret
  exact ⟨ret_bool (by simp [wthP]), (by repeat (first | exact Ext.refl _ | assumption | refine Ext.alloc ?_ _ | refine Ext.drew ?_ | refine Ext.trans ?_ (by assumption)))⟩

set_option maxRecDepth 100000 in
set_option maxHeartbeats 4000000 in
theorem wth_impl (w : World) (n : Nat) (a : Option Addr) (c : Nat) (vs : List Vt) (k : Nat) (hR : RdV w a vs) (hS : SmallV n vs) (n2 : n ≤ 5) :
    Calls Tryz.prog 87 #[.agg #[.int .i64 n, .slice a vs.length c], .int .i64 k] w fun e w' => ∃ v, e = .returned v ∧ WrI w' w.heap.size v (rowL n (wthV vs k)) ∧ Ext w w' := by
  have HS := hide hS
  clear hS
  obtain ⟨i0, hi, hz0, hz1, hz2⟩ := info_parts info_int
  have hmk := fun W => run_make_rowN (P := Tryz.prog) 28 3 i0 _ Tryz.underlying28 hi hz0 .i64 .i64 n n (Nat.le_refl _) (by rw [hz2]; omega) (by omega) W
  rw [hz1, Nat.mul_one] at hmk
  have q0 := new0 w (.int .i64 n) [.slice a vs.length c] 26
  have q1 := new1 w (.int .i64 n) (.slice a vs.length c) [] 26
  have q0 := Ext.keep (Ext.new _ (.cells #[.int .i64 (k : Int)] 3)) q0
  have q1 := Ext.keep (Ext.new _ (.cells #[.int .i64 (k : Int)] 3)) q1
  have qk := new0 (w.alloc (.cells #[.int .i64 n, .slice a vs.length c] 26)) (.int .i64 (k : Int)) [] 3
  have hs1 : (w.alloc (.cells #[.int .i64 n, .slice a vs.length c] 26)).heap.size = w.heap.size + 1 := by simp
  rw [hs1] at qk
  go_enter Tryz.func87, Tryz.ntmps87
  go_wp2_with fail
  clear hmk
  have h20 : Ext w ((w.alloc (.cells #[.int .i64 n, .slice a vs.length c] 26)).alloc (.cells #[.int .i64 (k : Int)] 3)) := (by repeat (first | exact Ext.refl _ | assumption | refine Ext.alloc ?_ _ | refine Ext.drew ?_ | refine Ext.trans ?_ (by assumption)))
  have hs2 : ((w.alloc (.cells #[.int .i64 n, .slice a vs.length c] 26)).alloc (.cells #[.int .i64 (k : Int)] 3)).heap.size = w.heap.size + 2 := by simp
  clear hs1
  generalize hW : (w.alloc (.cells #[.int .i64 n, .slice a vs.length c] 26)).alloc (.cells #[.int .i64 (k : Int)] 3) = wb at q0 q1 qk h20 hs2 ⊢
  clear hW
  have hB := BlkF.new wb (madeCells #[.int .i64 0] n) 3
  rw [size_madeCells] at hB
  have hE := Ext.new wb (.cells (madeCells #[.int .i64 0] n) 3)
  rw [hs2] at hB
  have hsz : w.heap.size + 2 ≤ wb.heap.size := by omega
  have hsz2 : wb.heap.size ≤ w.heap.size + 2 := by omega
  clear hs2
  have hR0 := hR.ext h20
  have hB := hB.congr (f' := fun o => .int .i64 (if o < 0 then wthV vs k o else 0)) (fun o ho => by rw [if_neg (by omega)]; exact made_int n o ho)
  generalize wb.alloc (.cells (madeCells #[.int .i64 0] n) 3) = W1 at hB hE ⊢
  go_loopw [6, 12] (fun _ i wr => ∃ j : Nat, j ≤ n ∧ i = .int .i64 j ∧ BlkF wr (w.heap.size + 2) n (fun o => .int .i64 (if o < j then wthV vs k o else 0)) ∧ Ext wb wr) (fun _ i _ => n - (intOf i).toNat)
  case atStart => exact ⟨0, Nat.zero_le _, rfl, hB, hE⟩
  case round =>
    clear hB hE
    obtain ⟨i, hi, rfl, hB, hwr⟩ := hrel
    have r0 := hwr.keep q0
    have r1 := hwr.keep q1
    have rk := hwr.keep qk
    by_cases hlt : i < n
    · have d0 := hB.cell i hlt
      rw [if_neg (by omega)] at d0
      have z0 := hB.fr i
      have hRr := hR0.ext hwr
      have HV := hide (fun (w' : World) (hw' : Ext (wr.alloc (.cells #[.int .i64 (i : Int)] 3)) w') =>
        votersV 118 #[] #[.pointer (some ⟨wr.heap.size, 0, none⟩), .pointer (some ⟨w.heap.size + 1, 0, none⟩)] (wthP i k) w' n a c vs (hRr.ext ((Ext.new wr _).trans hw')) HS.out Tryz.call118
          (fun x a' c' w2 hx hw2 hRx _ => wthOne w2 wr.heap.size (w.heap.size + 1) i k a' c' x.1 (hw2.keep (hw'.keep (new0 wr _ _ _))) (hw2.keep (((Ext.new wr _).trans hw').keep rk)) hRx (by have := (rk_len (HS.out.2 x hx).1).2; omega)))
      have HB := hide hB
      clear hB
      go_wp2
      have e0 := new0 wr (.int .i64 (i : Int)) [] 3
      refine wp_region_X (by kernel_rfl) (by kernel_rfl) ?_
      repeat' (refine wpX_stepQ (fun K hK => ?_)
               go_simp
               try (rw [if_neg (by intro h; simp [undef] at h)])
               try split
               all_goals
                 first
                 | (refine hK _ ?_
                    clear hK K)
                 | (apply Exists.intro
                    refine ⟨fun wq hwq => ?_, hK _ ?_⟩
                    · have hcq := hwq.cellS
                      go_simp
                      first
                      | exact ⟨Ext.refl _, rfl⟩
                      | exact ⟨Ext.refl _, HV.out _ (by repeat (first | exact Ext.refl _ | assumption | refine Ext.alloc ?_ _ | refine Ext.drew ?_ | refine Ext.trans ?_ (by assumption)))⟩
                    clear hK K))
      refine wpX_stepL rfl (by kernel_rfl) (by kernel_rfl) (by kernel_rfl) (fun K hK wz hwz => ?_)
      have hcz := hwz.cellS
      have hfz := hwz.frozenS
      go_simp
      refine hK _ _ ?_
      clear hK K
      go_wp2
      refine ⟨⟨i + 1, by omega, by go_num, ((HB.out.ext (show Ext wr wz from (by repeat (first | exact Ext.refl _ | assumption | refine Ext.alloc ?_ _ | refine Ext.drew ?_ | refine Ext.trans ?_ (by assumption))))).set i hlt _).congr (fun o ho => ?_), Ext.setCell (show Ext wb wz from (by repeat (first | exact Ext.refl _ | assumption | refine Ext.alloc ?_ _ | refine Ext.drew ?_ | refine Ext.trans ?_ (by assumption)))) hsz2 _⟩, by simp [intOf]; omega⟩
      by_cases e : o = i
      · subst e; rw [if_pos rfl, if_pos (by omega)]; rfl
      · rw [if_neg e]
        by_cases e2 : o < i
        · rw [if_pos e2, if_pos (by omega)]
        · rw [if_neg e2, if_neg (by omega)]
    · have hin : i = n := by omega
      go_wp2
      go_ret
      refine ⟨_, rfl, hB.wrI (rowL_len _ _) (fun j x hx => ?_) (by omega) (Nat.le_refl _), h20.trans hwr⟩
      obtain ⟨hj, rfl⟩ := rowL_val hx
      rw [hin, if_pos hj]

end Go.Proofs.YtfmeklgdaabooaaGreatDoor
