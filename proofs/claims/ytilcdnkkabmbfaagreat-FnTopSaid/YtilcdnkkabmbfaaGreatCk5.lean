/- Covering and transitivity. Candidates picked out by a relation to all others. How many each candidate beats, and how many beat it. The matrix of margins. The table of places. Appends that say where the new list lies: in its old block, or in a new one. Condorcet winner and loser, the unbeaten. -/
import Derived.Test.YtilcdnkkabmbfaaGreatCk4
import Derived.Test.YtilcdnkkabmbfaaGreatCk3
namespace Go.Proofs.YtilcdnkkabmbfaaGreat
open Go.RowKit

def allN (n : Nat) (p : Nat → Bool) : Bool := (List.range n).all p
set_option maxRecDepth 100000 in
theorem allN_t {n : Nat} {p : Nat → Bool} (h : ∀ j, j < n → p j = true) : allN n p = true := by
  unfold allN; rw [List.all_eq_true]; intro x hx; exact h x (List.mem_range.1 hx)
set_option maxRecDepth 100000 in
theorem allN_f {n : Nat} {p : Nat → Bool} {k : Nat} (hk : k < n) (h : p k = false) : allN n p = false := by
  unfold allN; rw [List.all_eq_false]; exact ⟨k, List.mem_range.2 hk, by simp [h]⟩
set_option maxRecDepth 100000 in
theorem upto_succ {p : Nat → Bool} {k : Nat} (h : ∀ j, j < k → p j = true) (hk : p k = true) : ∀ j, j < k + 1 → p j = true := fun j hj => by
  rcases Nat.lt_succ_iff_lt_or_eq.1 hj with h1 | rfl
  · exact h j h1
  · exact hk

def coversP (vs : List Vt) (a b : Int) (z : Nat) : Bool := !(beatsV vs z a && !beatsV vs z b)
def coversV (n : Nat) (vs : List Vt) (a b : Int) : Bool := beatsV vs a b && allN n (coversP vs a b)

def coverO (sz : Int) (vs : List Vt) (x y : Int) : Bool := profOk sz vs && (hasB sz x && (hasB sz y && coversV sz.toNat vs x y))
set_option maxRecDepth 100000 in
theorem prof_nat {sz : Int} {vs : List Vt} (h : profOk sz vs = true) : ∃ n : Nat, sz = n ∧ 1 ≤ n ∧ n ≤ 5 := by
  have := prof_size h
  exact ⟨sz.toNat, by omega, by omega, by omega⟩

def upL (n : Nat) (q : Nat → Bool) : List Int := ((List.range n).filter q).map (fun i : Nat => (i : Int))
set_option maxRecDepth 100000 in
theorem upL_succ (n : Nat) (q : Nat → Bool) : upL (n + 1) q = upL n q ++ if q n then [(n : Int)] else [] := by
  unfold upL
  rw [List.range_succ, List.filter_append, List.map_append]
  cases h : q n <;> simp [h]
set_option maxRecDepth 100000 in
theorem upL_len (n : Nat) (q : Nat → Bool) : (upL n q).length ≤ n := by
  unfold upL
  rw [List.length_map]
  exact Nat.le_trans (List.length_filter_le _ _) (by simp)
set_option maxRecDepth 100000 in
theorem upL_congr {n : Nat} {q q' : Nat → Bool} (h : ∀ i, i < n → q i = q' i) : upL n q = upL n q' := by
  unfold upL
  congr 1
  exact List.filter_congr (fun x hx => h x (List.mem_range.1 hx))
set_option maxRecDepth 100000 in
theorem allN_succ (n : Nat) (p : Nat → Bool) : allN (n + 1) p = (allN n p && p n) := by
  unfold allN; rw [List.range_succ, List.all_append]; simp

def thoseP (n : Nat) (p : Nat → Nat → Bool) (i : Nat) : Bool := allN n (fun j => decide (i = j) || p i j)
def thoseO (sz : Int) (vs : List Vt) (p : Nat → Nat → Bool) : List Int := if profOk sz vs then upL sz.toNat (thoseP sz.toNat p) else []

set_option maxRecDepth 100000 in
set_option maxHeartbeats 4000000 in
theorem those_impl (K : Nat) (cap : Array Value) (p : Nat → Nat → Bool) (w : World) (sz : Int) (a : Option Addr) (c : Nat) (vs : List Vt) (hR : RdV w a vs) (hK : Enters Tryz.prog K)
    (hf : ∀ (n i j : Nat) (w' : World), sz = n → n ≤ 5 → SmallV n vs → i < n → j < n → Ext w w' → Calls Tryz.prog K (#[.int .i64 i, .int .i64 j] ++ cap) w' fun e w'' => e = .returned (.bool (p i j)) ∧ Ext w' w'') :
    Calls Tryz.prog 103 #[.agg #[.int .i64 sz, .slice a vs.length c], .func (.func K) #[] cap] w fun e w' => ∃ v, e = .returned v ∧ OwnI w' w.heap.size v (thoseO sz vs p) ∧ Ext w w' := by
  unfold Enters at hK
  have q0 := new0 w (.int .i64 sz) [.slice a vs.length c] 29
  have q1 := new1 w (.int .i64 sz) (.slice a vs.length c) [] 29
  have HF := hide hf
  clear hf
  cases h0 : profOk sz vs
  · go_enter Tryz.func103, Tryz.ntmps103
    go_wp2_with (go_at_call 36; refine (prof_impl _ _ _ _ _ (hR.ext (by repeat (first | exact Ext.refl _ | assumption | refine Ext.alloc ?_ _ | refine Ext.drew ?_ | refine Ext.trans ?_ (by assumption))))).mono ?_; rintro e w1 ⟨rfl, hw1⟩; have q0 := Ext.keep (w' := w1) (by repeat (first | exact Ext.refl _ | assumption | refine Ext.alloc ?_ _ | refine Ext.drew ?_ | refine Ext.trans ?_ (by assumption))) q0; have q1 := Ext.keep (w' := w1) (by repeat (first | exact Ext.refl _ | assumption | refine Ext.alloc ?_ _ | refine Ext.drew ?_ | refine Ext.trans ?_ (by assumption))) q1)
    go_ret
    exact ⟨_, rfl, by simp [thoseO, h0]; exact OwnI.nil _ _, (by repeat (first | exact Ext.refl _ | assumption | refine Ext.alloc ?_ _ | refine Ext.drew ?_ | refine Ext.trans ?_ (by assumption)))⟩
  obtain ⟨n, rfl, n1, n2⟩ := prof_nat h0
  have HS := hide (prof_small h0)
  go_enter Tryz.func103, Tryz.ntmps103
  go_wp2_with (go_at_call 36; refine (prof_impl _ _ _ _ _ (hR.ext (by repeat (first | exact Ext.refl _ | assumption | refine Ext.alloc ?_ _ | refine Ext.drew ?_ | refine Ext.trans ?_ (by assumption))))).mono ?_; rintro e w1 ⟨rfl, hw1⟩; have q0 := Ext.keep (w' := w1) (by repeat (first | exact Ext.refl _ | assumption | refine Ext.alloc ?_ _ | refine Ext.drew ?_ | refine Ext.trans ?_ (by assumption))) q0; have q1 := Ext.keep (w' := w1) (by repeat (first | exact Ext.refl _ | assumption | refine Ext.alloc ?_ _ | refine Ext.drew ?_ | refine Ext.trans ?_ (by assumption))) q1)
  have hw : Ext w w1 := (by repeat (first | exact Ext.refl _ | assumption | refine Ext.alloc ?_ _ | refine Ext.drew ?_ | refine Ext.trans ?_ (by assumption)))
  obtain ⟨W0, rfl⟩ : ∃ W0 : World, W0 = w1 := ⟨_, rfl⟩
  go_loopw [5, 6, 7, 8, 14, 18, 19] (fun v _ _ _ i _ _ wr => ∃ k : Nat, k ≤ n ∧ i = .int .i64 k ∧ OwnI wr W0.heap.size v (upL k (thoseP n p)) ∧ Ext W0 wr) (fun _ _ _ _ i _ _ _ => n - (intOf i).toNat)
  case atStart => exact ⟨0, Nat.zero_le _, rfl, OwnI.nil _ _, Ext.refl _⟩
  case round =>
    obtain ⟨i, hi, rfl, hown, hwr⟩ := hrel
    have q0' := hwr.keep q0
    by_cases hit : i < n
    · go_wp2
      obtain ⟨wo, hwo⟩ : ∃ wo : World, wo = wr := ⟨_, rfl⟩
      subst hwo
      go_loopw [7, 8, 19] (fun b _ m wr => ∃ k : Nat, k ≤ n ∧ m = .int .i64 k ∧ b = .bool (allN k (fun j => decide (i = j) || p i j)) ∧ Ext wo wr) (fun _ _ m _ => n - (intOf m).toNat)
      case atStart => exact ⟨0, Nat.zero_le _, rfl, rfl, Ext.refl _⟩
      case round =>
        obtain ⟨k, hk, rfl, rfl, hwr'⟩ := hrel
        have q0' := hwr'.keep q0'
        by_cases hlt : k < n
        · cases h1 : allN k (fun j => decide (i = j) || p i j)
          · go_wp2
            exact ⟨⟨k + 1, by omega, by go_num, by rw [allN_succ, h1]; simp, (by repeat (first | exact Ext.refl _ | assumption | refine Ext.alloc ?_ _ | refine Ext.drew ?_ | refine Ext.trans ?_ (by assumption)))⟩, by simp [intOf]; omega⟩
          · by_cases e : i = k
            · have e' : (i : Int) = (k : Int) := by omega
              go_wp2
              exact ⟨⟨k + 1, by omega, by go_num, by rw [allN_succ, h1]; simp [e], (by repeat (first | exact Ext.refl _ | assumption | refine Ext.alloc ?_ _ | refine Ext.drew ?_ | refine Ext.trans ?_ (by assumption)))⟩, by simp [intOf]; omega⟩
            · have e' : ¬ (i : Int) = (k : Int) := by omega
              go_wp2_with fail
              refine (HF.out n i k _ rfl n2 HS.out hit hlt (by repeat (first | exact Ext.refl _ | assumption | refine Ext.alloc ?_ _ | refine Ext.drew ?_ | refine Ext.trans ?_ (by assumption)))).mono ?_
              rintro e w1 ⟨rfl, hw1⟩
              go_wp2
              exact ⟨⟨k + 1, by omega, by go_num, by rw [allN_succ, h1]; simp [e, e'], (by repeat (first | exact Ext.refl _ | assumption | refine Ext.alloc ?_ _ | refine Ext.drew ?_ | refine Ext.trans ?_ (by assumption)))⟩, by simp [intOf]; omega⟩
        · obtain rfl : k = n := by omega
          have hown := hown.ext hwr'
          have HT : allN k (fun j => decide (i = j) || p i j) = thoseP k p i := rfl
          rw [HT]
          cases h1 : thoseP k p i
          · go_wp2
            exact ⟨⟨i + 1, by omega, by go_num, by rw [upL_succ, h1]; simpa using hown, (by repeat (first | exact Ext.refl _ | assumption | refine Ext.alloc ?_ _ | refine Ext.drew ?_ | refine Ext.trans ?_ (by assumption)))⟩, by simp [intOf]; omega⟩
          · go_wp2_with (at_builtin; refine wpList_appI W0 _ rfl _ _ rfl _ (upL i (thoseP k p)) _ rfl (hown.ext (by repeat (first | exact Ext.refl _ | assumption | refine Ext.alloc ?_ _ | refine Ext.drew ?_ | refine Ext.trans ?_ (by assumption)))) (by repeat (first | exact Ext.refl _ | assumption | refine Ext.alloc ?_ _ | refine Ext.drew ?_ | refine Ext.trans ?_ (by assumption))) rfl (by have := upL_len i (thoseP k p); omega) ?_; intro v' w3 hown3 hw3)
            exact ⟨⟨i + 1, by omega, by go_num, by rw [upL_succ, h1]; exact hown3, (by repeat (first | exact Ext.refl _ | assumption | refine Ext.alloc ?_ _ | refine Ext.drew ?_ | refine Ext.trans ?_ (by assumption)))⟩, by simp [intOf]; omega⟩
    · obtain rfl : i = n := by omega
      go_wp2
      go_ret
      exact ⟨_, rfl, by simp [thoseO, h0]; exact hown.base hw.size, hw.trans hwr⟩

def onlyL (xs : List Int) : Int := match xs with | [x] => x | _ => -1

set_option maxRecDepth 100000 in
set_option maxHeartbeats 2000000 in
theorem only_impl (K : Nat) (cap : Array Value) (p : Nat → Nat → Bool) (w : World) (sz : Int) (a : Option Addr) (c : Nat) (vs : List Vt) (hR : RdV w a vs) (hK : Enters Tryz.prog K)
    (hf : ∀ (n i j : Nat) (w' : World), sz = n → n ≤ 5 → SmallV n vs → i < n → j < n → Ext w w' → Calls Tryz.prog K (#[.int .i64 i, .int .i64 j] ++ cap) w' fun e w'' => e = .returned (.bool (p i j)) ∧ Ext w' w'') :
    Calls Tryz.prog 119 #[.agg #[.int .i64 sz, .slice a vs.length c], .func (.func K) #[] cap] w fun e w' => e = .returned (.int .i64 (onlyL (thoseO sz vs p))) ∧ Ext w w' := by
  have HF := hide hf
  clear hf
  have hl : (thoseO sz vs p).length ≤ 5 := by
    unfold thoseO
    cases h0 : profOk sz vs
    · simp
    · obtain ⟨n, rfl, n1, n2⟩ := prof_nat h0
      have := upL_len n (thoseP n p)
      simp; omega
  obtain ⟨xs, hxs⟩ : ∃ xs, xs = thoseO sz vs p := ⟨_, rfl⟩
  rw [← hxs] at hl ⊢
  have HX := hide hxs
  clear hxs
  go_enter Tryz.func119, Tryz.ntmps119
  go_wp2_with fail
  refine (those_impl K cap p _ sz a c vs (hR.ext (by repeat (first | exact Ext.refl _ | assumption | refine Ext.alloc ?_ _ | refine Ext.drew ?_ | refine Ext.trans ?_ (by assumption)))) hK (fun n i j w' h1 h2 h3 h4 h5 h6 => HF.out n i j w' h1 h2 h3 h4 h5 ((Ext.new _ _).trans h6))).mono ?_
  rintro e w1 ⟨v, rfl, hv, hw1⟩
  rw [← HX.out] at hv
  clear HX HF
  obtain ⟨a', c', rfl, hc', hm', hR', _⟩ := hv.val
  rcases xs with _ | ⟨x, _ | ⟨y, ys⟩⟩
  · go_wp2
    go_ret
    exact ⟨rfl, (by repeat (first | exact Ext.refl _ | assumption | refine Ext.alloc ?_ _ | refine Ext.drew ?_ | refine Ext.trans ?_ (by assumption)))⟩
  · obtain ⟨b, off, rfl, c0⟩ := hR'.at_ (k := 0) (x := x) rfl
    rw [Nat.add_zero] at c0
    go_wp2
    go_ret
    exact ⟨rfl, (by repeat (first | exact Ext.refl _ | assumption | refine Ext.alloc ?_ _ | refine Ext.drew ?_ | refine Ext.trans ?_ (by assumption)))⟩
  · simp at hl
    have e1 : (ys.length : Int) + 1 + 1 ≠ 1 := by omega
    go_wp2
    go_ret
    exact ⟨rfl, (by repeat (first | exact Ext.refl _ | assumption | refine Ext.alloc ?_ _ | refine Ext.drew ?_ | refine Ext.trans ?_ (by assumption)))⟩

def cntN (n : Nat) (q : Nat → Bool) : Nat := (List.range n).countP q
set_option maxRecDepth 100000 in
theorem cntN_succ (n : Nat) (q : Nat → Bool) : cntN (n + 1) q = cntN n q + if q n then 1 else 0 := by
  unfold cntN
  rw [List.range_succ, List.countP_append, List.countP_singleton]
set_option maxRecDepth 100000 in
theorem cntN_le (n : Nat) (q : Nat → Bool) : cntN n q ≤ n := by
  have := List.countP_le_length (p := q) (l := List.range n)
  unfold cntN
  simpa using this
set_option maxRecDepth 100000 in
theorem cntN_zero (q : Nat → Bool) : cntN 0 q = 0 := by simp [cntN]
def rowL (n : Nat) (f : Nat → Int) : List Int := (List.range n).map f
set_option maxRecDepth 100000 in
theorem rowL_len (n : Nat) (f : Nat → Int) : (rowL n f).length = n := by simp [rowL]
set_option maxRecDepth 100000 in
theorem rowL_at {n : Nat} {f : Nat → Int} {j : Nat} (h : j < n) : (rowL n f)[j]? = some (f j) := by simp [rowL, h]
set_option maxRecDepth 100000 in
theorem rowL_val {n : Nat} {f : Nat → Int} {j : Nat} {x : Int} (h : (rowL n f)[j]? = some x) : j < n ∧ x = f j := by
  have hj := lt_of_at h
  rw [rowL_len] at hj
  rw [rowL_at hj] at h
  injection h with h
  exact ⟨hj, h.symm⟩
set_option maxRecDepth 100000 in
theorem rowL_succ (n : Nat) (f : Nat → Int) : rowL (n + 1) f = rowL n f ++ [f n] := by simp [rowL, List.range_succ]
set_option maxRecDepth 100000 in
theorem rowL_congr {n : Nat} {f g : Nat → Int} (h : ∀ j, j < n → f j = g j) : rowL n f = rowL n g := by
  unfold rowL
  exact List.map_congr_left (fun x hx => h x (List.mem_range.1 hx))

/-- B: how i stands to j. The tables after the rows below i and m places of row i. -/
def tabU (n : Nat) (B : Nat → Nat → Bool) (i m o : Nat) : Nat := if o < i then cntN n (B o) else if o = i then cntN m (B i) else 0
def tabD (B : Nat → Nat → Bool) (i m o : Nat) : Nat := cntN (if o < m then i + 1 else i) (fun x => B x o)
set_option maxRecDepth 100000 in
theorem tabU_zero (n : Nat) (B : Nat → Nat → Bool) (o : Nat) : tabU n B 0 0 o = 0 := by
  unfold tabU; rw [if_neg (by omega)]; split <;> simp [cntN]
set_option maxRecDepth 100000 in
theorem tabD_zero (B : Nat → Nat → Bool) (o : Nat) : tabD B 0 0 o = 0 := by
  unfold tabD; rw [if_neg (by omega)]; simp [cntN]
set_option maxRecDepth 100000 in
theorem tabU_at (n : Nat) (B : Nat → Nat → Bool) (i m : Nat) : tabU n B i m i = cntN m (B i) := by
  unfold tabU; rw [if_neg (by omega), if_pos rfl]
set_option maxRecDepth 100000 in
theorem tabD_at (B : Nat → Nat → Bool) (i m : Nat) : tabD B i m m = cntN i (fun x => B x m) := by
  unfold tabD; rw [if_neg (by omega)]
set_option maxRecDepth 100000 in
theorem tabU_step (n : Nat) (B : Nat → Nat → Bool) (i m o : Nat) : tabU n B i (m + 1) o = tabU n B i m o + if o = i then (if B i m then 1 else 0) else 0 := by
  unfold tabU
  by_cases h1 : o < i
  · rw [if_pos h1, if_pos h1, if_neg (by omega)]; rfl
  · by_cases h2 : o = i
    · rw [if_neg h1, if_neg h1, if_pos h2, if_pos h2, if_pos h2, cntN_succ]
    · rw [if_neg h1, if_neg h1, if_neg h2, if_neg h2, if_neg h2]
set_option maxRecDepth 100000 in
theorem tabD_step (B : Nat → Nat → Bool) (i m o : Nat) : tabD B i (m + 1) o = tabD B i m o + if o = m then (if B i m then 1 else 0) else 0 := by
  unfold tabD
  by_cases h1 : o < m
  · rw [if_pos h1, if_pos (by omega), if_neg (by omega)]; rfl
  · by_cases h2 : o = m
    · subst h2; rw [if_neg h1, if_pos (by omega), if_pos rfl, cntN_succ]
    · rw [if_neg h1, if_neg (by omega), if_neg h2]; rfl
set_option maxRecDepth 100000 in
theorem tabU_done (n : Nat) (B : Nat → Nat → Bool) (i o : Nat) : tabU n B i n o = tabU n B (i + 1) 0 o := by
  unfold tabU
  by_cases h1 : o < i
  · rw [if_pos h1, if_pos (by omega)]
  · by_cases h2 : o = i
    · subst h2; rw [if_neg h1, if_pos rfl, if_pos (by omega)]
    · rw [if_neg h1, if_neg h2, if_neg (by omega)]; split <;> simp [cntN]
set_option maxRecDepth 100000 in
theorem tabD_done (n : Nat) (B : Nat → Nat → Bool) (i o : Nat) (h : o < n) : tabD B i n o = tabD B (i + 1) 0 o := by
  unfold tabD; rw [if_pos h, if_neg (by omega)]
set_option maxRecDepth 100000 in
theorem tab_le (n : Nat) (B : Nat → Nat → Bool) (i m : Nat) (hm : m ≤ n) (o : Nat) : tabU n B i m o ≤ n := by
  unfold tabU
  split
  · exact cntN_le _ _
  · split
    · exact Nat.le_trans (cntN_le _ _) hm
    · omega
def iv (x : Nat) : Value := .int .i64 (x : Int)

def bt (vs : List Vt) (i j : Nat) : Bool := beatsV vs (i : Int) (j : Int)
def upsL (n : Nat) (vs : List Vt) : List Int := rowL n (fun i => (cntN n (bt vs i) : Nat))
def dnsL (n : Nat) (vs : List Vt) : List Int := rowL n (fun j => (cntN n (fun i => bt vs i j) : Nat))

def tabL (n : Nat) (M : Nat → Nat → Int) : List (List Int) := (List.range n).map (fun i => rowL n (M i))
set_option maxRecDepth 100000 in
theorem tabL_len (n : Nat) (M : Nat → Nat → Int) : (tabL n M).length = n := by simp [tabL]
set_option maxRecDepth 100000 in
theorem tabL_at {n i : Nat} {M : Nat → Nat → Int} (h : i < n) : (tabL n M)[i]? = some (rowL n (M i)) := by simp [tabL, h]
set_option maxRecDepth 100000 in
theorem tabL_row {n : Nat} {M : Nat → Nat → Int} {x : List Int} (h : x ∈ tabL n M) : x.length = n := by
  unfold tabL at h
  rw [List.mem_map] at h
  obtain ⟨i, _, rfl⟩ := h
  exact rowL_len _ _
set_option maxRecDepth 100000 in
theorem tabL_bd {n : Nat} {M : Nat → Nat → Int} (hn : n ≤ 5) : (tabL n M).length ≤ 1000 ∧ ∀ x ∈ tabL n M, x.length ≤ 100 :=
  ⟨by rw [tabL_len]; omega, fun x hx => by rw [tabL_row hx]; omega⟩
/-- The first k rows. -/
def tabTo (n k : Nat) (M : Nat → Nat → Int) : List (List Int) := (List.range k).map (fun i => rowL n (M i))
set_option maxRecDepth 100000 in
theorem tabTo_succ (n k : Nat) (M : Nat → Nat → Int) : tabTo n (k + 1) M = tabTo n k M ++ [rowL n (M k)] := by simp [tabTo, List.range_succ]
set_option maxRecDepth 100000 in
theorem tabTo_len (n k : Nat) (M : Nat → Nat → Int) : (tabTo n k M).length = k := by simp [tabTo]
set_option maxRecDepth 100000 in
theorem tabTo_n (n : Nat) (M : Nat → Nat → Int) : tabTo n n M = tabL n M := rfl

def mgnV (vs : List Vt) (i j : Nat) : Int := marginV vs i j
def mgnO (sz : Int) (vs : List Vt) : List (List Int) := if profOk sz vs then tabL sz.toNat (mgnV vs) else []
set_option maxRecDepth 100000 in
theorem mgnO_bd (sz : Int) (vs : List Vt) : (mgnO sz vs).length ≤ 1000 ∧ ∀ x ∈ mgnO sz vs, x.length ≤ 100 := by
  unfold mgnO
  cases h0 : profOk sz vs
  · simp
  · obtain ⟨n, rfl, n1, n2⟩ := prof_nat h0
    simpa using tabL_bd n2

/-- Rows below i are whole, row i holds m cells, the others none. -/
def rowsT (n : Nat) (M : Nat → Nat → Int) (i m o : Nat) : List Int := if o < i then rowL n (M o) else if o = i then rowL m (M i) else []
set_option maxRecDepth 100000 in
theorem rowsT_zero (n : Nat) (M : Nat → Nat → Int) (o : Nat) : rowsT n M 0 0 o = [] := by
  unfold rowsT; rw [if_neg (by omega)]; split <;> simp [rowL]
set_option maxRecDepth 100000 in
theorem rowsT_at (n : Nat) (M : Nat → Nat → Int) (i m : Nat) : rowsT n M i m i = rowL m (M i) := by
  unfold rowsT; rw [if_neg (by omega), if_pos rfl]
set_option maxRecDepth 100000 in
theorem rowsT_far (n : Nat) (M : Nat → Nat → Int) (i m m' : Nat) {o : Nat} (h : o ≠ i) : rowsT n M i m o = rowsT n M i m' o := by
  unfold rowsT; rw [if_neg h, if_neg h]
set_option maxRecDepth 100000 in
theorem rowsT_done (n : Nat) (M : Nat → Nat → Int) (i o : Nat) : rowsT n M i n o = rowsT n M (i + 1) 0 o := by
  unfold rowsT
  by_cases h1 : o < i
  · rw [if_pos h1, if_pos (by omega)]
  · by_cases h2 : o = i
    · subst h2; rw [if_neg h1, if_pos rfl, if_pos (by omega)]
    · rw [if_neg h1, if_neg h2, if_neg (by omega)]; split <;> simp [rowL]
set_option maxRecDepth 100000 in
theorem rowsT_all {n o : Nat} (M : Nat → Nat → Int) (h : o < n) : rowsT n M n 0 o = rowL n (M o) := by
  unfold rowsT; rw [if_pos h]
set_option maxRecDepth 100000 in
theorem rowsT_begin (n : Nat) (M : Nat → Nat → Int) (i : Nat) : rowsT n M i 0 i = [] := by rw [rowsT_at]; simp [rowL]

set_option maxRecDepth 100000 in
theorem made_row (n j : Nat) (hj : j < n) : (madeCells #[Value.slice none 0 0] n).getD j undef = .slice none 0 0 := by
  have h := toList_madeCells_one (.slice none 0 0) n
  have h2 : (madeCells #[Value.slice none 0 0] n).toList[j]? = some (.slice none 0 0) := by rw [h]; simp [hj]
  rw [Array.getElem?_toList] at h2
  simp [h2]
set_option maxRecDepth 100000 in
/-- A matrix of empty rows, just made. -/
theorem Mat.made (w : World) (n : Nat) : Mat (w.alloc (.cells (madeCells #[.slice none 0 0] n) 36)) w.heap.size w.heap.size n (fun _ => .slice none 0 0) (fun _ => []) := by
  have h := BlkF.new w (madeCells #[.slice none 0 0] n) 36
  rw [size_madeCells] at h
  exact ⟨Nat.le_refl _, h.congr (fun o ho => made_row n o ho), fun o ho => OwnI.nil _ _, (fun o ho e => by cases e), (fun o o' k _ _ _ e => by cases e)⟩

set_option maxRecDepth 100000 in
theorem len_le : ∀ (n : Nat) (r : List Int), r.Nodup → (∀ x ∈ r, 0 ≤ x ∧ x < (n : Int)) → r.length ≤ n
  | 0, r, _, h => by
    cases r with
    | nil => simp
    | cons x r => have := h x (by simp); omega
  | n + 1, r, hd, h => by
    have h1 := len_le n (r.erase (n : Int)) (hd.erase _) (fun x hx => by
      have h2 := h x (List.mem_of_mem_erase hx)
      have h3 : x ≠ (n : Int) := fun e => by subst e; exact hd.not_mem_erase hx
      omega)
    by_cases hm : (n : Int) ∈ r
    · rw [List.length_erase_of_mem hm] at h1; omega
    · rw [List.erase_of_not_mem hm] at h1; omega
set_option maxRecDepth 100000 in
theorem rk_all {n : Nat} {r : List Int} (h : rkOk n r = true) {a : Nat} (ha : a < n) : (a : Int) ∈ r := by
  by_cases hm : (a : Int) ∈ r
  · exact hm
  · have h1 := len_le n ((a : Int) :: r) (List.nodup_cons.2 ⟨hm, rk_nodup h⟩) (fun x hx => by
      rcases List.mem_cons.1 hx with rfl | hx
      · omega
      · have := rk_mem h hx; omega)
    have h2 := (rk_len h).1
    simp at h1; omega
set_option maxRecDepth 100000 in
theorem nodup_inj {r : List Int} (h : r.Nodup) {i j : Nat} {x : Int} (hi : r[i]? = some x) (hj : r[j]? = some x) : i = j := by
  obtain ⟨hil, hi⟩ := List.getElem?_eq_some_iff.1 hi
  obtain ⟨hjl, hj⟩ := List.getElem?_eq_some_iff.1 hj
  rcases Nat.lt_trichotomy i j with h1 | h1 | h1
  · exact absurd (hi.trans hj.symm) (List.pairwise_iff_getElem.1 h i j hil hjl h1)
  · exact h1
  · exact absurd (hj.trans hi.symm) (List.pairwise_iff_getElem.1 h j i hjl hil h1)
set_option maxRecDepth 100000 in
/-- Where a candidate stands in a valid ranking. -/
theorem place_at {n : Nat} {r : List Int} (h : rkOk n r = true) {a : Nat} (ha : a < n) : ∃ k : Nat, k < n ∧ placeI r a = k ∧ r[k]? = some (a : Int) ∧ ∀ j, r[j]? = some (a : Int) → j = k := by
  have hm := rk_all h ha
  have hl := (rk_len h).1
  unfold placeI findI
  cases hf : r.findIdx? (fun y => (a : Int) == y) with
  | none =>
    rw [List.findIdx?_eq_none_iff] at hf
    have := hf _ hm
    simp at this
  | some k =>
    rw [List.findIdx?_eq_some_iff_getElem] at hf
    obtain ⟨hk, h1, _⟩ := hf
    have h2 : r[k]? = some (a : Int) := by rw [List.getElem?_eq_getElem hk]; simp at h1; rw [← h1]
    exact ⟨k, by omega, rfl, h2, fun j hj => nodup_inj (rk_nodup h) hj h2⟩

set_option maxRecDepth 100000 in
theorem pref_self (r : List Int) (x : Int) : prefB r x x = false := by simp [prefB]
set_option maxRecDepth 100000 in
theorem pref_tot {n : Nat} {r : List Int} (h : rkOk n r = true) {x y : Nat} (hx : x < n) (hy : y < n) (hne : x ≠ y) : prefB r x y = !prefB r y x := by
  obtain ⟨p, _, h1, h2, _⟩ := place_at h hx
  obtain ⟨q, _, h3, h4, _⟩ := place_at h hy
  have hpq : p ≠ q := fun e => by subst e; rw [h2] at h4; injection h4 with h4; omega
  unfold prefB
  rw [h1, h3]
  by_cases h5 : p < q
  · have h6 : ¬ q < p := by omega
    simp [h5, h6]
  · have h6 : q < p := by omega
    simp [h5, h6]

def plcP (a k : Nat) (r : List Int) : Bool := r[k]? == some (a : Int)
def plcV (vs : List Vt) (a k : Nat) : Int := sumV (plcP a k) vs
def plcO (sz : Int) (vs : List Vt) : List (List Int) := if profOk sz vs then tabL sz.toNat (plcV vs) else []
set_option maxRecDepth 100000 in
theorem plcO_bd (sz : Int) (vs : List Vt) : (plcO sz vs).length ≤ 1000 ∧ ∀ x ∈ plcO sz vs, x.length ≤ 100 := by
  unfold plcO
  cases h0 : profOk sz vs
  · simp
  · obtain ⟨n, rfl, n1, n2⟩ := prof_nat h0
    simpa using tabL_bd n2

set_option maxRecDepth 100000 in
theorem OwnI.made (w : World) (n : Nat) (hn : n ≤ 2000000) : OwnI (w.alloc (.cells (madeCells #[.int .i64 0] n) 3)) w.heap.size (.slice (some ⟨w.heap.size, 0, none⟩) n n) (rowL n (fun _ => 0)) := by
  have h := World.ownsRow_lit (base := w.heap.size) (e := 3) (size := 1) w (madeCells #[.int .i64 0] n) n (Nat.le_refl _) (by unfold maxLen; omega) (by rw [size_madeCells]; omega)
  unfold OwnI
  have e : (rowL n (fun _ => 0)).map (Value.int .i64) = (madeCells #[Value.int .i64 0] n).toList := by
    have h0 := toList_madeCells_one (.int .i64 0) n
    have h1 : (madeCells #[Value.int .i64 0] n).toList = List.replicate n (.int .i64 0) := h0
    rw [h1]
    apply List.ext_getElem?
    intro j
    by_cases hj : j < n
    · simp [rowL, hj]
    · simp [rowL, hj]
  rw [rowL_len, e]
  exact h
set_option maxRecDepth 100000 in
theorem rowL_set {n : Nat} {f g : Nat → Int} {k : Nat} {y : Int} (hg : ∀ j, j < n → g j = if j = k then y else f j) : (rowL n f).set k y = rowL n g := by
  apply List.ext_getElem?
  intro j
  by_cases hj : j < n
  · by_cases e : k = j
    · subst e
      rw [List.getElem?_set_self (by rw [rowL_len]; exact hj), rowL_at hj, hg k hj, if_pos rfl]
    · rw [List.getElem?_set_ne e, rowL_at hj, rowL_at hj, hg j hj, if_neg (Ne.symm e)]
  · rw [List.getElem?_eq_none (by rw [List.length_set, rowL_len]; omega), List.getElem?_eq_none (by rw [rowL_len]; omega)]

set_option maxRecDepth 100000 in
set_option maxHeartbeats 4000000 in
theorem plc_spec (w : World) (sz : Int) (a : Option Addr) (c : Nat) (vs : List Vt) (hR : RdV w a vs) :
    Calls Tryz.prog 214 #[.agg #[.int .i64 sz, .slice a vs.length c]] w fun e w' => ∃ v, e = .returned v ∧ WrSS w' w.heap.size v (plcO sz vs) ∧ Ext w w' := by
  have q0 := new0 w (.int .i64 sz) [.slice a vs.length c] 29
  have q1 := new1 w (.int .i64 sz) (.slice a vs.length c) [] 29
  cases h0 : profOk sz vs
  · go_enter Tryz.func214, Tryz.ntmps214
    go_wp2_with (go_at_call 127; refine (prof_spec _ _ _ _ _ (hR.ext (by repeat (first | exact Ext.refl _ | assumption | refine Ext.alloc ?_ _ | refine Ext.drew ?_ | refine Ext.trans ?_ (by assumption))))).mono ?_; rintro e w1 ⟨rfl, hw1⟩; have q0 := Ext.keep (w' := w1) (by repeat (first | exact Ext.refl _ | assumption | refine Ext.alloc ?_ _ | refine Ext.drew ?_ | refine Ext.trans ?_ (by assumption))) q0; have q1 := Ext.keep (w' := w1) (by repeat (first | exact Ext.refl _ | assumption | refine Ext.alloc ?_ _ | refine Ext.drew ?_ | refine Ext.trans ?_ (by assumption))) q1)
    go_ret
    exact ⟨_, rfl, by simp [plcO, h0]; exact WrSS.nil _ _ _ _, (by repeat (first | exact Ext.refl _ | assumption | refine Ext.alloc ?_ _ | refine Ext.drew ?_ | refine Ext.trans ?_ (by assumption)))⟩
  obtain ⟨n, rfl, n1, n2⟩ := prof_nat h0
  have HS := hide (prof_small h0)
  have hvl := (prof_small h0).1
  obtain ⟨i0, hi, hz0, hz1, hz2⟩ := info_parts info_int
  have hmk := fun W => run_make_rowN (P := Tryz.prog) 36 3 i0 _ Tryz.underlying36 hi hz0 .i64 .i64 n n (Nat.le_refl _) (by rw [hz2]; omega) (by omega) W
  rw [hz1, Nat.mul_one] at hmk
  go_enter Tryz.func214, Tryz.ntmps214
  go_wp2_with (go_at_call 127; refine (prof_spec _ _ _ _ _ (hR.ext (by repeat (first | exact Ext.refl _ | assumption | refine Ext.alloc ?_ _ | refine Ext.drew ?_ | refine Ext.trans ?_ (by assumption))))).mono ?_; rintro e w1 ⟨rfl, hw1⟩; have q0 := Ext.keep (w' := w1) (by repeat (first | exact Ext.refl _ | assumption | refine Ext.alloc ?_ _ | refine Ext.drew ?_ | refine Ext.trans ?_ (by assumption))) q0; have q1 := Ext.keep (w' := w1) (by repeat (first | exact Ext.refl _ | assumption | refine Ext.alloc ?_ _ | refine Ext.drew ?_ | refine Ext.trans ?_ (by assumption))) q1)
  have hw : Ext w w1 := (by repeat (first | exact Ext.refl _ | assumption | refine Ext.alloc ?_ _ | refine Ext.drew ?_ | refine Ext.trans ?_ (by assumption)))
  have hR0 := hR.ext hw
  have hO := OwnSS.made0 w1
  have h20 := Ext.new w1 (.cells #[] 36)
  obtain ⟨wb, hwb⟩ : ∃ wb : World, wb = w1 := ⟨_, rfl⟩
  subst hwb
  generalize wb.alloc (.cells #[] 36) = W0 at hO h20 ⊢
  go_loopw [3, 4, 5, 7, 8, 23, 24, 25] (fun v i _ _ _ _ _ _ wr => ∃ k : Nat, k ≤ n ∧ i = .int .i64 k ∧ OwnSS wr wb.heap.size v (tabTo n k (plcV vs)) ∧ Ext wb wr) (fun _ i _ _ _ _ _ _ _ => n - (intOf i).toNat)
  case atStart => exact ⟨0, Nat.zero_le _, rfl, hO, h20⟩
  case round =>
    clear h20 hO
    obtain ⟨i, hi, rfl, hown, hwr⟩ := hrel
    have r0 := hwr.keep q0
    have r1 := hwr.keep q1
    have htl := tabTo_len n i (plcV vs)
    by_cases hit : i < n
    · go_wp2_with fail
      have hO := OwnI.made wr n (by omega)
      have hE := Ext.new wr (.cells (madeCells #[.int .i64 0] n) 3)
      obtain ⟨wo, hwo⟩ : ∃ wo : World, wo = wr := ⟨_, rfl⟩
      subst hwo
      generalize wo.alloc (.cells (madeCells #[.int .i64 0] n) 3) = W1 at hO hE ⊢
      go_loopw [7, 8, 25] (fun _ _ m wr => ∃ k : Nat, k ≤ vs.length ∧ m = .int .i64 k ∧ OwnI wr wo.heap.size (.slice (some ⟨wo.heap.size, 0, none⟩) n n) (rowL n (fun j => plcV (vs.take k) i j)) ∧ Ext wo wr) (fun _ _ m _ => vs.length - (intOf m).toNat)
      case atStart => exact ⟨0, Nat.zero_le _, rfl, by simpa [plcV, sumV] using hO, hE⟩
      case round =>
        clear hO hE r0 r1
        obtain ⟨k, hk, rfl, hrow, hwr'⟩ := hrel
        by_cases hlt : k < vs.length
        · obtain ⟨v, hx⟩ := at_of_lt hlt
          obtain ⟨b, off, a', c', rfl, c0, c1, hc', hRx⟩ := (hR0.ext (hwr.trans hwr')).at_ hx
          obtain ⟨x0, x1, x2⟩ := HS.out.2 v (List.mem_of_getElem? hx)
          obtain ⟨p, hp, hpl, hpa, hpu⟩ := place_at x0 hit
          have hvl := (rk_len x0).2
          obtain ⟨s1, s2⟩ := sumV_bd HS.out k hk (p := plcP i p)
          obtain ⟨d0, z0, hst⟩ := hrow.storeAt (rowL_at (f := fun j => plcV (vs.take k) i j) hp)
          have HX := hide hx
          have HU := hide hpu
          have HT := hide hst
          have y2 : IntKind.i64.wrap (plcV (vs.take k) i p + v.2) = plcV (vs.take (k + 1)) i p := by
            rw [IntWalk.i64_left, IntWalk.wrap64_in _ (by unfold plcV; omega)]; unfold plcV; rw [sumV_at hx, if_pos (by simp [plcP, hpa])]
          have y1 : wrap64 (plcV (vs.take k) i p + v.2) = plcV (vs.take (k + 1)) i p := by rw [← IntWalk.i64_left]; exact y2
          clear hx hpu hst x0 x1 x2 s1 s2 hpa
          have HP := hide hpl
          clear hpl
          have e0 := new0 wr (.slice a' v.1.length c') [.int .i64 v.2] 55
          have e1 := new1 wr (.slice a' v.1.length c') (.int .i64 v.2) [] 55
          go_wp2_with fail
          refine (place_spec _ a' c' v.1 _ (hRx.ext (by repeat (first | exact Ext.refl _ | assumption | refine Ext.alloc ?_ _ | refine Ext.drew ?_ | refine Ext.trans ?_ (by assumption)))) (by omega)).mono ?_
          rintro e w3 ⟨rfl, hw3⟩
          rw [HP.out]
          have d1 := Ext.keep (w' := w3) (by repeat (first | exact Ext.refl _ | assumption | refine Ext.alloc ?_ _ | refine Ext.drew ?_ | refine Ext.trans ?_ (by assumption))) d0
          have z1 : w3.frozen? ⟨wo.heap.size, p, none⟩ = false := ((show Ext wr w3 from (by repeat (first | exact Ext.refl _ | assumption | refine Ext.alloc ?_ _ | refine Ext.drew ?_ | refine Ext.trans ?_ (by assumption)))).frozenS _ (by rw [d0]; rfl)).trans z0
          have e1 := hw3.keep e1
          have hrow3 := hide (hrow.ext (show Ext wr w3 from (by repeat (first | exact Ext.refl _ | assumption | refine Ext.alloc ?_ _ | refine Ext.drew ?_ | refine Ext.trans ?_ (by assumption)))))
          clear d0 z0 HT hrow
          go_wp2
          refine wp_region_X (by kernel_rfl) (by kernel_rfl) ?_
          repeat' (refine wpX_stepQ (fun K hK => ?_)
                   go_simp
                   try (rw [if_neg (by intro h; simp [undef] at h)])
                   try split
                   all_goals
                     first
                     | (refine hK _ ?_
                        clear hK K)
                     | (apply Exists.intro
                        refine ⟨fun wq hwq => ?_, hK _ ?_⟩
                        · have hcq := hwq.cellS
                          go_simp
                          first
                          | exact ⟨Ext.refl _, rfl⟩
                        clear hK K))
          refine wpX_stepL rfl (by kernel_rfl) (by kernel_rfl) (by kernel_rfl) (fun K hK wz hwz => ?_)
          have hcz := hwz.cellS
          have hfz := hwz.frozenS
          go_simp
          refine hK _ _ ?_
          clear hK K
          go_wp2
          have hst := ((hrow3.out.ext hwz).storeAt (rowL_at (f := fun j => plcV (vs.take k) i j) hp)).2.2 (plcV (vs.take (k + 1)) i p)
          rw [rowL_set (g := fun j => plcV (vs.take (k + 1)) i j) (fun j hj => by
            by_cases e : j = p
            · rw [if_pos e, e]
            · rw [if_neg e]
              show sumV _ _ = sumV _ _
              rw [sumV_at HX.out, if_neg (by simp only [plcP, beq_iff_eq]; exact fun e2 => e (HU.out j e2))]; simp)] at hst
          exact ⟨⟨k + 1, by omega, by go_num, hst, Ext.setCell (show Ext wo wz from (by repeat (first | exact Ext.refl _ | assumption | refine Ext.alloc ?_ _ | refine Ext.drew ?_ | refine Ext.trans ?_ (by assumption)))) (Nat.le_refl _) _⟩, by simp [intOf]; omega⟩
        · have hkn : vs.take k = vs := List.take_of_length_le (by omega)
          rw [hkn] at hrow
          go_wp2_with (at_builtin; refine wpList_appS wb wo _ rfl _ _ rfl _ (tabTo n i (plcV vs)) _ _ rfl (by exact hown) hwr hwr' (by exact hrow) rfl (by omega) ?_; intro v' w3 hown3 hw3)
          exact ⟨⟨i + 1, by omega, by go_num, by rw [tabTo_succ]; exact hown3, hw3⟩, by simp [intOf]; omega⟩
    · have hin : i = n := by omega
      go_wp2
      go_ret
      rw [hin, tabTo_n] at hown
      exact ⟨_, rfl, by simpa [plcO, h0] using (hown.base hw.size).wr, hw.trans hwr⟩

/-- The list lies where it lay, or in memory that was not there. -/
def Fresh (w : World) (v v' : Value) : Prop := v'.ownBlock = v.ownBlock ∨ ∀ k, v'.ownBlock = some k → w.heap.size ≤ k

set_option maxRecDepth 100000 in
theorem run_append_fresh {P : Program} (w : World) (base : Nat) (t ty e : TypeId) (i : TypeInfo) (z : Value) (size bytes : Nat) (ht : P.underlying t = some (.slice e)) (hi : P.info? e = some i) (hz : i.zero = some z)
    (hsize : i.size = size) (hby : i.bytes = bytes) (hzs : z.cells.size = size) (hsz : 0 < size)
    (v : Value) (n : Nat) (xs : List Value) (hown : w.ownsRow base e size v n xs)
    (a : Addr) (m c : Nat) (news : List Value) (hl : news.length = m * size) (hnews : ∀ (j : Nat) u, news[j]? = some u → w.cell? (a.add j) = some u) (h1 : ∀ u ∈ news, u.oneCell' = true) (hm : 0 < m)
    (h63 : n + m ≤ maxLen) (hbytes : (n + m) * bytes ≤ 140737488355328) (hbase : base ≤ w.heap.size) :
    ∃ v' w', (Builtin.append_ #[t, t] ty #[v, .slice (some a) m c]).run P w = .ok v' w' ∧ w'.ownsRow base e size v' (n + m) (xs ++ news) ∧ w.grownBy w' v.ownBlock ∧ Fresh w v v' := by
  obtain ⟨v', w', hr, h2, h3, _⟩ := run_append_own (P := P) w base t ty e i z size bytes ht hi hz hsize hby hzs hsz v n xs hown a m c news hl hnews h1 h63 hbytes hbase
  refine ⟨v', w', hr, h2, h3, ?_⟩
  subst hsize
  subst hby
  have hmx : n + m ≤ 9223372036854775807 := by simp only [maxLen] at h63; omega
  rcases hown.2 with ⟨rfl, rfl⟩ | ⟨g, cap, cur, rfl, hbg, hg, hnc, hcm, hcs, htake⟩
  · have hr2 := run_append_nil (P := P) w t ty e i z ht hi hz a m c news hl hnews hm (by omega) (by have hb := hbytes; simp only [Nat.zero_add] at hb; omega)
    rw [hr] at hr2
    injection hr2 with e1 e2
    subst e1
    exact .inr (fun k hk => by simp only [Value.ownBlock, Option.some.injEq] at hk; omega)
  · by_cases hroom : n + m ≤ cap
    · have hfit : n * i.size + news.length ≤ cur.size := by rw [hl, hcs, ← Nat.add_mul]; exact Nat.mul_le_mul_right _ hroom
      have hr2 := run_append_room (P := P) w t ty e i ht hi g n cap cur hg a m c news hl hnews h1 hroom hfit
      rw [hr] at hr2
      injection hr2 with e1 e2
      subst e1
      exact .inl rfl
    · have holds : ∀ (j : Nat) u, xs[j]? = some u → w.cell? ((⟨g, 0, none⟩ : Addr).add j) = some u := hown.cells (g := g) rfl
      have hr2 := run_append_grow (P := P) w t ty e i z ht hi hz ⟨g, 0, none⟩ n cap xs hown.1 holds a m c news hl hnews (by omega) (by omega) (growslice_fits (by omega) hbytes)
      rw [hr] at hr2
      injection hr2 with e1 e2
      subst e1
      exact .inr (fun k hk => by simp only [Value.ownBlock, Option.some.injEq] at hk; omega)

set_option maxRecDepth 100000 in
theorem wpList_appF {ops : Array Oper} {rest : List Oper} {o : Oper} {a : Act} {Q : Exit → Act → World → Prop} (B : Nat) (w3 : World) (hgd : o.guard = none) (s x : Operand)
    (ho : o.op = .call { callee := .builtin .append, args := #[s, x], argTypes := #[36, 36] }) (v : Value) (xs : List Int) (y : Int) (hs : a.eval s = v) (hown : OwnI w3 B v xs) (hB : B ≤ w3.heap.size)
    (hx : a.eval x = .slice (some ⟨w3.heap.size, 0, none⟩) 1 1) (hlen : xs.length ≤ 2000000)
    (h : ∀ v' w', OwnI w' B v' (xs ++ [y]) → w3.grownBy w' v.ownBlock → Fresh w3 v v' → wpList Tryz.prog ops Q rest (a.put o.dst v') w') : wpList Tryz.prog ops Q (o :: rest) a (w3.alloc (.cells #[.int .i64 y] 3)) := by
  obtain ⟨i0, hi, hz0, hz1, hz2⟩ := info_parts info_int
  have hown3 := hown.ext (Ext.new w3 (.cells #[.int .i64 y] 3))
  obtain ⟨v', w', hr, h1, h2, h3⟩ := run_append_fresh (P := Tryz.prog) (w3.alloc (.cells #[.int .i64 y] 3)) B 36 o.type 3 i0 (.int .i64 0) 1 8 Tryz.underlying36 hi hz0 hz1 hz2 rfl (by decide) v xs.length _ hown3 ⟨w3.heap.size, 0, none⟩ 1 1 [.int .i64 y] rfl
    (fun j u hj => by
      match j, hj with
      | 0, hj => simp at hj; subst hj; simp [Addr.add])
    (fun u hu => by simp at hu; subst hu; rfl) (by decide) (by unfold maxLen; omega) (by omega) (by simp; omega)
  refine wpList_plain hgd fun K hK => ?_
  unfold Oper.wp execOp
  simp only [ho, resolve, invoke, builtin, Sem.run_bind, Sem.run_pure, Result.andThen_ok, List.map_toArray, List.map_cons, List.map_nil, hs, hx, hr]
  refine hK _ _ (h v' w' ?_ ?_ ?_)
  · unfold OwnI
    simpa using h1
  · exact ⟨h2.os, h2.tape, h2.output, Nat.le_trans (by simp) h2.size, fun k hk hne => (h2.block k (by simp; omega) hne).trans (Below.block (Ext.new w3 (.cells #[.int .i64 y] 3)) k hk)⟩
  · rcases h3 with h3 | h3
    · exact .inl h3
    · exact .inr (fun k hk => by have := h3 k hk; simp at this; omega)

/-- Blocks from lo on and below hi are as they were. -/
def Keeps (lo hi : Nat) (w w' : World) : Prop := w.heap.size ≤ w'.heap.size ∧ ∀ k, lo ≤ k → k < hi → w'.heap[k]? = w.heap[k]?
set_option maxRecDepth 100000 in
theorem Keeps.refl (lo hi : Nat) (w : World) : Keeps lo hi w w := ⟨Nat.le_refl _, fun _ _ _ => rfl⟩
set_option maxRecDepth 100000 in
theorem Keeps.ext {lo hi : Nat} {w w' w'' : World} (h : Keeps lo hi w w') (hw : Ext w' w'') (hh : hi ≤ w'.heap.size) : Keeps lo hi w w'' :=
  ⟨Nat.le_trans h.1 hw.size, fun k h1 h2 => (Below.block hw k (by omega)).trans (h.2 k h1 h2)⟩
set_option maxRecDepth 100000 in
theorem Keeps.grown {lo hi : Nat} {w w' w'' : World} {row : Option Nat} (h : Keeps lo hi w w') (hg : w'.grownBy w'' row) (hh : hi ≤ w'.heap.size) (hr : ∀ k, row = some k → k < lo ∨ hi ≤ k) : Keeps lo hi w w'' :=
  ⟨Nat.le_trans h.1 hg.size, fun k h1 h2 => (hg.block k (by omega) (fun e => by have := hr k e.symm; omega)).trans (h.2 k h1 h2)⟩
set_option maxRecDepth 100000 in
theorem Fresh.out {w : World} {v v' : Value} {lo hi : Nat} (h : Fresh w v v') (hv : ∀ k, v.ownBlock = some k → k < lo ∨ hi ≤ k) (hh : hi ≤ w.heap.size) : ∀ k, v'.ownBlock = some k → k < lo ∨ hi ≤ k := fun k hk => by
  rcases h with h | h
  · exact hv k (by rw [← h]; exact hk)
  · have := h k hk; omega
set_option maxRecDepth 100000 in
theorem OwnI.keeps {w w' : World} {B hi : Nat} {v : Value} {xs : List Int} (h : OwnI w B v xs) (hw : Keeps B hi w w') (hb : ∀ k, v.ownBlock = some k → k < hi) : OwnI w' B v xs := by
  obtain ⟨h1, h2⟩ := h
  refine ⟨h1, ?_⟩
  rcases h2 with h2 | ⟨g, cap, cur, rfl, hg, hh, r⟩
  · exact .inl h2
  · exact .inr ⟨g, cap, cur, rfl, hg, by rw [hw.2 g hg (hb g rfl)]; exact hh, r⟩
set_option maxRecDepth 100000 in
theorem Mat.keeps {w w' : World} {B hi g n : Nat} {us : Nat → Value} {rows : Nat → List Int} (h : Mat w B g n us rows) (hw : Keeps B hi w w') (hh : w.heap.size ≤ hi) : Mat w' B g n us rows := by
  have hl := h.outer.lt
  have hg := hw.2 g h.base (by omega)
  exact ⟨h.base, ⟨Nat.lt_of_lt_of_le hl hw.1, fun o => (World.frozen?_of_block (w := w) hg).trans (h.outer.fr o), fun o ho => (World.cell?_of_block (w := w) hg).trans (h.outer.cell o ho)⟩,
    fun o ho => (h.row o ho).keeps hw (fun k hk => Nat.lt_of_lt_of_le (World.ownsRow.lt (h.row o ho) k hk).2 hh), h.far, h.dis⟩
set_option maxRecDepth 100000 in
theorem WrSS.keeps {w w' : World} {B hi : Nat} {v : Value} {xss : List (List Int)} (h : WrSS w B v xss) (hw : Keeps B hi w w') (hh : w.heap.size ≤ hi) : WrSS w' B v xss := by
  obtain ⟨a, c, hv, hc, ho⟩ := h
  refine ⟨a, c, hv, hc, fun hne => ?_⟩
  obtain ⟨g, us, ha, hM⟩ := ho hne
  exact ⟨g, us, ha, hM.keeps hw hh⟩

def fullI (xs : List Int) : Int := findI (fun x => x == (xs.length : Int) - 1) xs

set_option maxRecDepth 100000 in
theorem allN_iff {n : Nat} {p : Nat → Bool} : allN n p = true ↔ ∀ j, j < n → p j = true := by
  unfold allN; rw [List.all_eq_true]
  exact ⟨fun h j hj => h j (List.mem_range.2 hj), fun h x hx => h x (List.mem_range.1 hx)⟩
set_option maxRecDepth 100000 in
theorem cntN_all {n : Nat} {p : Nat → Bool} : cntN n p = n ↔ allN n p = true := by
  rw [allN_iff]
  unfold cntN
  have h := List.countP_eq_length (p := p) (l := List.range n)
  rw [List.length_range] at h
  rw [h]
  exact ⟨fun h j hj => h j (List.mem_range.2 hj), fun h x hx => h x (List.mem_range.1 hx)⟩
set_option maxRecDepth 100000 in
theorem cntN_none {n : Nat} {p : Nat → Bool} : cntN n p = 0 ↔ allN n (fun j => !p j) = true := by
  rw [allN_iff]
  unfold cntN
  rw [List.countP_eq_zero]
  exact ⟨fun h j hj => by have := h j (List.mem_range.2 hj); simpa using this, fun h x hx => by have := h x (List.mem_range.1 hx); simpa using this⟩
set_option maxRecDepth 100000 in
theorem cntN_but (i : Nat) (q : Nat → Bool) (hi : q i = false) : ∀ k, cntN k (fun j => decide (i = j) || q j) = cntN k q + if i < k then 1 else 0
  | 0 => by simp [cntN]
  | k + 1 => by
    rw [cntN_succ, cntN_succ, cntN_but i q hi k]
    by_cases e : i = k
    · subst e
      simp [hi]
    · by_cases h : i < k
      · have h3 : i < k + 1 := by omega
        simp [e, h, h3]; omega
      · have h3 : ¬ i < k + 1 := by omega
        simp [e, h, h3]
set_option maxRecDepth 100000 in
theorem full_those {n i : Nat} {B : Nat → Nat → Bool} (hi : i < n) (h : B i i = false) : (cntN n (B i) = n - 1) ↔ thoseP n B i = true := by
  unfold thoseP
  rw [← cntN_all, cntN_but i (B i) h n, if_pos hi]
  omega
set_option maxRecDepth 100000 in
theorem upL_one {n i : Nat} {q : Nat → Bool} (hi : i < n) (h : q i = true) (hu : ∀ j, j < n → q j = true → j = i) : upL n q = [(i : Int)] := by
  have key : ∀ k, k ≤ n → upL k q = if i < k then [(i : Int)] else [] := by
    intro k
    induction k with
    | zero => intro _; simp [upL]
    | succ k ih =>
      intro hk
      rw [upL_succ, ih (by omega)]
      by_cases e : k = i
      · subst e; simp [h]
      · have hq : q k = false := by
          cases hq : q k
          · rfl
          · exact absurd (hu k (by omega) hq) e
        rw [hq]
        by_cases h2 : i < k
        · have h3 : i < k + 1 := by omega
          simp [h2, h3]
        · have h3 : ¬ i < k + 1 := by omega
          simp [h2, h3]
  rw [key n (Nat.le_refl _), if_pos hi]
set_option maxRecDepth 100000 in
theorem upL_none {n : Nat} {q : Nat → Bool} (h : ∀ j, j < n → q j = false) : upL n q = [] := by
  unfold upL
  rw [List.map_eq_nil_iff, List.filter_eq_nil_iff]
  intro x hx
  rw [h x (List.mem_range.1 hx)]; simp

set_option maxRecDepth 100000 in
theorem full_only {n : Nat} {B : Nat → Nat → Bool} (hn : 1 ≤ n) (ha : ∀ i j, B i j = true → B j i = false) :
    fullI (rowL n (fun i => (cntN n (B i) : Nat))) = onlyL (upL n (thoseP n B)) := by
  have hirr : ∀ i, B i i = false := fun i => by
    cases h : B i i
    · rfl
    · have := ha i i h
      rw [h] at this; cases this
  have hu : ∀ i j, i < n → j < n → thoseP n B i = true → thoseP n B j = true → j = i := fun i j hi hj h1 h2 => by
    by_cases e : j = i
    · exact e
    · have a1 := allN_iff.1 h1 j hj
      have a2 := allN_iff.1 h2 i hi
      simp only [Bool.or_eq_true, decide_eq_true_eq] at a1 a2
      rcases a1 with a1 | a1
      · exact a1.symm
      · rcases a2 with a2 | a2
        · exact a2
        · rw [ha i j a1] at a2; cases a2
  have hp : ∀ i, i < n → ((((cntN n (B i) : Nat) : Int) == ((n : Int) - 1)) = thoseP n B i) := fun i hi => by
    have h1 := full_those (B := B) hi (hirr i)
    cases h2 : thoseP n B i
    · have : ¬ cntN n (B i) = n - 1 := fun h => by rw [h1.1 h] at h2; cases h2
      simp; omega
    · have := h1.2 h2
      simp; omega
  unfold fullI
  rw [rowL_len]
  by_cases hex : ∃ i, i < n ∧ thoseP n B i = true
  · obtain ⟨i, hi, hq⟩ := hex
    rw [upL_one hi hq (fun j hj hj2 => hu i j hi hj hq hj2)]
    refine findI_some (rowL_at hi) ?_ (by rw [hp i hi]; exact hq)
    rw [List.all_eq_true]
    intro x hx
    obtain ⟨j, hj⟩ := List.getElem?_of_mem hx
    have hjl := lt_of_at hj
    rw [List.length_take] at hjl
    rw [List.getElem?_take_of_lt (by omega)] at hj
    obtain ⟨hjn, rfl⟩ := rowL_val hj
    rw [hp j hjn]
    cases h2 : thoseP n B j
    · rfl
    · have := hu i j hi hjn hq h2
      omega
  · have hno : ∀ j, j < n → thoseP n B j = false := fun j hj => by
      cases h : thoseP n B j
      · rfl
      · exact absurd ⟨j, hj, h⟩ hex
    rw [upL_none hno]
    refine findI_none ?_
    rw [List.all_eq_true]
    intro x hx
    obtain ⟨j, hj⟩ := List.getElem?_of_mem hx
    obtain ⟨hjn, rfl⟩ := rowL_val hj
    rw [hp j hjn, hno j hjn]; rfl

set_option maxRecDepth 100000 in
theorem bt_anti (vs : List Vt) (i j : Nat) (h : bt vs i j = true) : bt vs j i = false := by
  simp only [bt, beatsV, decide_eq_true_eq, decide_eq_false_iff_not] at *; omega

end Go.Proofs.YtilcdnkkabmbfaaGreat
