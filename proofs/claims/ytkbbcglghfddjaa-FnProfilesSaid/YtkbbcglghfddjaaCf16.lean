/- A candidate with a majority of first places. Weights of places and the scores by them, of the spec. All orders of a list: the two ways of naming them answer alike (plain law). Pairs of a list in which something holds for the later and the earlier one, counted in two ways (plain law). -/
import Derived.Test.YtkbbcglghfddjaaCf15
import Derived.Test.YtkbbcglghfddjaaCf8
namespace Go.Proofs.Ytkbbcglghfddjaa
open Go.RowKit

def fstV (vs : List Vt) (a : Nat) : Int := plcV vs a 0
set_option maxRecDepth 100000 in
theorem fstV_bd {n : Int} {vs : List Vt} (hS : SmallV n vs) (a : Nat) : 0 ≤ fstV vs a ∧ fstV vs a ≤ 24000 := sumV_bd' hS

def majO (sz : Int) (vs : List Vt) : Int := if profOk sz vs then findI (fun x => decide (allV vs < 2 * x)) (rowL sz.toNat (fstV vs)) else -1

def pluW (j : Nat) : Int := if j = 0 then 1 else 0
set_option maxRecDepth 100000 in
theorem pluG : GoodW pluW := pluF
set_option maxRecDepth 100000 in
set_option maxHeartbeats 1000000 in
theorem pluOne (w : World) (j : Nat) (hj : j ≤ 5) : Calls Try.prog 94 #[.int .i64 j] w fun e w' => e = .returned (.int .i64 (pluW j)) ∧ Ext w w' := by
  by_cases h0 : j = 0
  · subst h0
    go_enter Try.func94, Try.ntmps94
    go_wp2
    go_ret
    exact ⟨rfl, Ext.refl _⟩
  · go_enter Try.func94, Try.ntmps94
    go_wp2
    go_ret
    exact ⟨ret_int (by unfold pluW; rw [if_neg h0] <;> first | omega | (split <;> omega)), Ext.refl _⟩

set_option maxRecDepth 100000 in
set_option maxHeartbeats 1000000 in
theorem weightsOf_no (w : World) (m : Int) (K : Value) (h : inR m 1 5 = false) :
    Calls Try.prog 93 #[.int .i64 m, K] w fun e w' => e = .returned (.slice none 0 0) ∧ Ext w w' := by
  go_enter Try.func93, Try.ntmps93
  go_wp2_with (go_at_call 50; refine (in_impl _ _ _ _).mono ?_; rintro e w1 ⟨rfl, hw1⟩)
  go_ret
  exact ⟨rfl, (by repeat (first | exact Ext.refl _ | assumption | refine Ext.alloc ?_ _ | refine Ext.drew ?_ | refine Ext.trans ?_ (by assumption)))⟩

set_option maxRecDepth 100000 in
set_option maxHeartbeats 1000000 in
theorem plu_impl (w : World) (m : Int) :
    Calls Try.prog 84 #[.int .i64 m] w fun e w' => ∃ v, e = .returned v ∧ (∀ n : Nat, m = n → inR m 1 5 = true → OwnI w' w.heap.size v (rowL n pluW)) ∧ Ext w w' := by
  cases h : inR m 1 5
  · go_enter Try.func84, Try.ntmps84
    go_wp2_with fail
    refine (weightsOf_no _ _ _ h).mono ?_
    rintro e w1 ⟨rfl, hw1⟩
    go_wp2
    go_ret
    exact ⟨_, rfl, (fun n _ h => by cases h), (by repeat (first | exact Ext.refl _ | assumption | refine Ext.alloc ?_ _ | refine Ext.drew ?_ | refine Ext.trans ?_ (by assumption)))⟩
  · obtain ⟨h1, h2⟩ := inR_iff.1 h
    obtain ⟨n, rfl⟩ : ∃ n : Nat, m = n := ⟨m.toNat, by omega⟩
    go_enter Try.func84, Try.ntmps84
    go_wp2_with fail
    refine (weightsOf_impl 94 #[] pluW _ n (by omega) (by omega) Try.call94 (fun j w' hj _ => pluOne w' j (by omega))).mono ?_
    rintro e w1 ⟨v, rfl, hv, hw1⟩
    go_wp2
    go_ret
    refine ⟨_, rfl, fun k hk _ => ?_, (by repeat (first | exact Ext.refl _ | assumption | refine Ext.alloc ?_ _ | refine Ext.drew ?_ | refine Ext.trans ?_ (by assumption)))⟩
    have : n = k := by omega
    subst this
    exact hv

set_option maxRecDepth 100000 in
set_option maxHeartbeats 1000000 in
theorem sco_no (w : World) (sz : Int) (a : Option Addr) (c : Nat) (vs : List Vt) (u : Value) (hR : RdV w a vs) (h0 : profOk sz vs = false) :
    Calls Try.prog 83 #[.agg #[.int .i64 sz, .slice a vs.length c], u] w fun e w' => e = .returned (.slice none 0 0) ∧ Ext w w' := by
  have q0 := new0 w (.int .i64 sz) [.slice a vs.length c] 26
  have q1 := new1 w (.int .i64 sz) (.slice a vs.length c) [] 26
  go_enter Try.func83, Try.ntmps83
  go_wp2_with (go_at_call 17; refine (prof_impl _ _ _ _ _ (hR.ext (by repeat (first | exact Ext.refl _ | assumption | refine Ext.alloc ?_ _ | refine Ext.drew ?_ | refine Ext.trans ?_ (by assumption))))).mono ?_; rintro e w1 ⟨rfl, hw1⟩; have q0 := Ext.keep (w' := w1) (by repeat (first | exact Ext.refl _ | assumption | refine Ext.alloc ?_ _ | refine Ext.drew ?_ | refine Ext.trans ?_ (by assumption))) q0; have q1 := Ext.keep (w' := w1) (by repeat (first | exact Ext.refl _ | assumption | refine Ext.alloc ?_ _ | refine Ext.drew ?_ | refine Ext.trans ?_ (by assumption))) q1)
  go_ret
  exact ⟨rfl, (by repeat (first | exact Ext.refl _ | assumption | refine Ext.alloc ?_ _ | refine Ext.drew ?_ | refine Ext.trans ?_ (by assumption)))⟩

def fstO (sz : Int) (vs : List Vt) : List Int := if profOk sz vs then rowL sz.toNat (fstV vs) else []
set_option maxRecDepth 100000 in
set_option maxHeartbeats 1000000 in
theorem fst_impl (w : World) (sz : Int) (a : Option Addr) (c : Nat) (vs : List Vt) (hR : RdV w a vs) :
    Calls Try.prog 58 #[.agg #[.int .i64 sz, .slice a vs.length c]] w fun e w' => ∃ v, e = .returned v ∧ WrI w' w.heap.size v (fstO sz vs) ∧ Ext w w' := by
  have q0 := new0 w (.int .i64 sz) [.slice a vs.length c] 26
  have q1 := new1 w (.int .i64 sz) (.slice a vs.length c) [] 26
  cases h0 : profOk sz vs
  · go_enter Try.func58, Try.ntmps58
    go_wp2
    refine wp_region_X (by kernel_rfl) (by kernel_rfl) ?_
    repeat' (refine wpX_stepQ (fun K hK => ?_)
             go_simp
             try (rw [if_neg (by intro h; simp [undef] at h)])
             try split
             all_goals
               first
               | (refine hK _ ?_
                  clear hK K)
               | (apply Exists.intro
                  refine ⟨fun wq hwq => ?_, hK _ ?_⟩
                  · have hcq := hwq.cellS
                    go_simp
                    first
                    | exact ⟨Ext.refl _, rfl⟩
                  clear hK K))
    refine wpX_stepS rfl (by kernel_rfl) (fun K hK wq hwq => ?_)
    go_simp
    refine (plu_impl _ _).mono ?_
    rintro e w1 ⟨v, rfl, _, hw1⟩
    refine ⟨hw1, hK _ _ ?_⟩
    clear hK K
    repeat' (refine wpX_stepQ (fun K hK => ?_)
             go_simp
             try (rw [if_neg (by intro h; simp [undef] at h)])
             try split
             all_goals
               first
               | (refine hK _ ?_
                  clear hK K)
               | (apply Exists.intro
                  refine ⟨fun wq hwq => ?_, hK _ ?_⟩
                  · have hcq := hwq.cellS
                    go_simp
                    first
                    | exact ⟨Ext.refl _, rfl⟩
                    | exact ⟨Ext.refl _, sco_no _ _ _ _ _ _ (hR.ext (by repeat (first | exact Ext.refl _ | assumption | refine Ext.alloc ?_ _ | refine Ext.drew ?_ | refine Ext.trans ?_ (by assumption)))) h0⟩
                  clear hK K))
    refine wpX_nil (fun wz hwz => ?_)
    go_wp2
    go_ret
    exact ⟨_, rfl, by simp [fstO, h0]; exact WrI.nil _ _ _ _, (by repeat (first | exact Ext.refl _ | assumption | refine Ext.alloc ?_ _ | refine Ext.drew ?_ | refine Ext.trans ?_ (by assumption)))⟩
  · obtain ⟨n, rfl, n1, n2⟩ := prof_nat h0
    have HS := hide (prof_small h0)
    have hin : inR (n : Int) 1 5 = true := inR_iff.2 (by omega)
    go_enter Try.func58, Try.ntmps58
    go_wp2
    refine wp_region_X (by kernel_rfl) (by kernel_rfl) ?_
    repeat' (refine wpX_stepQ (fun K hK => ?_)
             go_simp
             try (rw [if_neg (by intro h; simp [undef] at h)])
             try split
             all_goals
               first
               | (refine hK _ ?_
                  clear hK K)
               | (apply Exists.intro
                  refine ⟨fun wq hwq => ?_, hK _ ?_⟩
                  · have hcq := hwq.cellS
                    go_simp
                    first
                    | exact ⟨Ext.refl _, rfl⟩
                  clear hK K))
    refine wpX_stepS rfl (by kernel_rfl) (fun K hK wq hwq => ?_)
    go_simp
    refine (plu_impl _ _).mono ?_
    rintro e w1 ⟨v, rfl, hv, hw1⟩
    refine ⟨hw1, hK _ _ ?_⟩
    clear hK K
    have hv := hv n rfl hin
    obtain ⟨av, cv, rfl, _, _, hRv, _⟩ := hv.val
    rw [rowL_len]
    refine wpX_stepS rfl (by kernel_rfl) (fun K hK wq hwq => ?_)
    go_simp
    refine (sco_impl _ n a av c cv vs pluW n rfl (hR.ext (by repeat (first | exact Ext.refl _ | assumption | refine Ext.alloc ?_ _ | refine Ext.drew ?_ | refine Ext.trans ?_ (by assumption)))) (hRv.ext (by repeat (first | exact Ext.refl _ | assumption | refine Ext.alloc ?_ _ | refine Ext.drew ?_ | refine Ext.trans ?_ (by assumption)))) pluG h0).mono ?_
    rintro e w2 ⟨v2, rfl, hv2, hw2⟩
    refine ⟨hw2, hK _ _ ?_⟩
    clear hK K
    repeat' (refine wpX_stepQ (fun K hK => ?_)
             go_simp
             try (rw [if_neg (by intro h; simp [undef] at h)])
             try split
             all_goals
               first
               | (refine hK _ ?_
                  clear hK K)
               | (apply Exists.intro
                  refine ⟨fun wq hwq => ?_, hK _ ?_⟩
                  · have hcq := hwq.cellS
                    go_simp
                    first
                    | exact ⟨Ext.refl _, rfl⟩
                  clear hK K))
    refine wpX_nil (fun wz hwz => ?_)
    go_wp2
    go_ret
    refine ⟨_, rfl, ?_, (by repeat (first | exact Ext.refl _ | assumption | refine Ext.alloc ?_ _ | refine Ext.drew ?_ | refine Ext.trans ?_ (by assumption)))⟩
    have he : fstO n vs = rowL n (scoV pluW vs) := by
      simp only [fstO, h0, if_true, Int.toNat_natCast]
      exact rowL_congr (fun j hj => (plc_sco hj HS.out).symm)
    rw [he]
    exact (hv2.ext hwz).base (Ext.size (by repeat (first | exact Ext.refl _ | assumption | refine Ext.alloc ?_ _ | refine Ext.drew ?_ | refine Ext.trans ?_ (by assumption))))

def borW (n : Nat) (j : Nat) : Int := ((n - 1 - j : Nat) : Int)
def vetW (n : Nat) (j : Nat) : Int := if j + 1 < n then 1 else 0
set_option maxRecDepth 100000 in
theorem borG {n : Nat} (hn : n ≤ 5) : GoodW (borW n) := ⟨fun j => by unfold borW; omega, fun j => by unfold borW; omega⟩
set_option maxRecDepth 100000 in
theorem vetG (n : Nat) : GoodW (vetW n) := ⟨fun j => by unfold vetW; split <;> omega, fun j => by unfold vetW; split <;> split <;> omega⟩

set_option maxRecDepth 100000 in
theorem set0_at {n j : Nat} (hj : j < n) : ((madeCells #[.int .i64 0] n).setIfInBounds 0 (.int .i64 1)).getD j undef = .int .i64 (pluW j) := by
  have h := made_int n j hj
  have h' : (madeCells #[Value.int .i64 0] n).getD j undef = .int .i64 0 := h
  rw [Array.getD_eq_getD_getElem?] at h' ⊢
  rw [Array.getElem?_setIfInBounds]
  by_cases h0 : j = 0
  · subst h0
    rw [if_pos rfl, size_madeCells, if_pos hj]; rfl
  · rw [if_neg (by omega), h']
    simp [pluW, h0]

set_option maxRecDepth 100000 in
theorem flatMap_same {α β : Type} {f g : α → List β} : ∀ {l : List α}, (∀ x ∈ l, f x = g x) → l.flatMap f = l.flatMap g
  | [], _ => rfl
  | x :: l, h => by
    rw [List.flatMap_cons, List.flatMap_cons, h x (by simp), flatMap_same (fun y hy => h y (by simp [hy]))]
set_option maxRecDepth 100000 in
theorem flatMap_range {β : Type} (f : Int → List β) : ∀ s : List Int, s.flatMap f = (List.range s.length).flatMap (fun i => f (s.getD i 0))
  | [] => rfl
  | x :: s => by
    rw [List.flatMap_cons, flatMap_range f s, List.length_cons, List.range_succ_eq_map, List.flatMap_cons, List.flatMap_map]
    rfl

/-- The orders that begin with `pre`, k more candidates to come, as the spec draws them. -/
def allS (n : Nat) : Nat → List Int → List (List Int)
  | 0, pre => [pre]
  | k + 1, pre => (leftL n pre).flatMap (fun x => allS n k (pre ++ [x]))

/-- The orders of s (of length k) as the implementation draws them. -/
def ordL : Nat → List Int → List (List Int)
  | 0, _ => [[]]
  | k + 1, s => (List.range s.length).flatMap (fun i => (ordL k (s.eraseIdx i)).map (fun r => s.getD i 0 :: r))

set_option maxRecDepth 100000 in
theorem all_ord (n : Nat) : ∀ (k : Nat) (pre : List Int), allS n k pre = (ordL k (leftL n pre)).map (fun r => pre ++ r)
  | 0, pre => by simp [allS, ordL]
  | k + 1, pre => by
    unfold allS ordL
    rw [flatMap_range, List.map_flatMap]
    refine flatMap_same (fun i hi => ?_)
    have hi := List.mem_range.1 hi
    have hg : (leftL n pre)[i]? = some ((leftL n pre).getD i 0) := by
      rw [List.getD_eq_getElem?_getD, List.getElem?_eq_getElem hi]; rfl
    rw [all_ord n k, ← leftL_erase hg, List.map_map]
    refine List.map_congr_left (fun r _ => ?_)
    simp

set_option maxRecDepth 100000 in
theorem ordL_len (k : Nat) : ∀ (s : List Int), s.length = k → ∀ r ∈ ordL k s, r.length = k := by
  induction k with
  | zero => intro s _ r hr; simp [ordL] at hr; simp [hr]
  | succ k ih =>
    intro s hs r hr
    unfold ordL at hr
    obtain ⟨i, hi, hr⟩ := List.mem_flatMap.1 hr
    obtain ⟨t, ht, rfl⟩ := List.mem_map.1 hr
    have hi := List.mem_range.1 hi
    rw [List.length_cons, ih (s.eraseIdx i) (by rw [List.length_eraseIdx_of_lt hi]; omega) t ht]

/-- All rankings of n candidates. -/
def allO (n : Nat) : List (List Int) := allS n n []
set_option maxRecDepth 100000 in
theorem all_eq (n : Nat) : allO n = ordL n (leftL n []) := by
  unfold allO; rw [all_ord]; simp

/-- Counted from the earlier one. -/
def bkI (q : Int → Int → Bool) : List Int → Nat
  | [] => 0
  | x :: xs => xs.countP (fun y => q y x) + bkI q xs
/-- Counted from the later one. -/
def bkS (q : Int → Int → Bool) (r : List Int) (i : Nat) : Nat := match i with
  | 0 => 0
  | k + 1 => bkS q r k + (r.take k).countP (fun y => q (r.getD k 0) y)
set_option maxRecDepth 100000 in
theorem bkI_snoc (q : Int → Int → Bool) : ∀ (xs : List Int) (y : Int), bkI q (xs ++ [y]) = bkI q xs + xs.countP (fun x => q y x)
  | [], y => by simp [bkI]
  | x :: xs, y => by
    rw [List.cons_append, bkI, bkI_snoc q xs y, bkI, List.countP_append, List.countP_cons]
    simp only [List.countP_cons, List.countP_nil]
    omega
set_option maxRecDepth 100000 in
theorem bkS_bkI (q : Int → Int → Bool) (r : List Int) : ∀ k, k ≤ r.length → bkS q r k = bkI q (r.take k)
  | 0, _ => by simp [bkS, bkI]
  | k + 1, h => by
    obtain ⟨x, hx⟩ := at_of_lt (xs := r) (k := k) (by omega)
    rw [take_at hx, bkI_snoc, bkS, bkS_bkI q r k (by omega)]
    have : r.getD k 0 = x := by simp [List.getD, hx]
    rw [this]
set_option maxRecDepth 100000 in
theorem bkS_all (q : Int → Int → Bool) (r : List Int) : bkS q r r.length = bkI q r := by rw [bkS_bkI q r _ (Nat.le_refl _), List.take_length]
set_option maxRecDepth 100000 in
theorem bkI_bd (q : Int → Int → Bool) : ∀ xs : List Int, bkI q xs ≤ xs.length * xs.length
  | [] => by simp [bkI]
  | x :: xs => by
    have h := bkI_bd q xs
    have h2 := List.countP_le_length (p := fun y => q y x) (l := xs)
    rw [bkI, List.length_cons, Nat.add_mul, Nat.mul_add]
    omega
set_option maxRecDepth 100000 in
theorem bkI_congr {q q' : Int → Int → Bool} : ∀ {xs : List Int}, (∀ x ∈ xs, ∀ y ∈ xs, q x y = q' x y) → bkI q xs = bkI q' xs
  | [], _ => rfl
  | x :: xs, h => by
    rw [bkI, bkI, bkI_congr (xs := xs) (fun a ha b hb => h a (by simp [ha]) b (by simp [hb]))]
    congr 1
    exact List.countP_congr (fun y hy => by rw [h y (by simp [hy]) x (by simp)])
set_option maxRecDepth 100000 in
theorem bkI_zero {q : Int → Int → Bool} : ∀ {xs : List Int}, bkI q xs = 0 ↔ xs.Pairwise (fun x y => q y x = false)
  | [] => by simp [bkI]
  | x :: xs => by
    rw [bkI, List.pairwise_cons, ← bkI_zero (q := q) (xs := xs)]
    constructor
    · intro h
      have h1 : xs.countP (fun y => q y x) = 0 := by omega
      rw [List.countP_eq_zero] at h1
      exact ⟨fun y hy => by simpa using h1 y hy, by omega⟩
    · intro ⟨h1, h2⟩
      have : xs.countP (fun y => q y x) = 0 := by
        rw [List.countP_eq_zero]
        intro y hy
        rw [h1 y hy]; decide
      omega
/-- The part of the count from the earlier ones, up to place i, and in the middle of it. -/
def bkTo (q : Int → Int → Bool) (r : List Int) : Nat → Nat
  | 0 => 0
  | k + 1 => bkTo q r k + (r.drop (k + 1)).countP (fun y => q y (r.getD k 0))
set_option maxRecDepth 100000 in
theorem bkTo_drop (q : Int → Int → Bool) (r : List Int) : ∀ k, k ≤ r.length → bkTo q r k + bkI q (r.drop k) = bkI q r
  | 0, _ => by simp [bkTo]
  | k + 1, h => by
    obtain ⟨x, hx⟩ := at_of_lt (xs := r) (k := k) (by omega)
    have ih := bkTo_drop q r k (by omega)
    have hl := lt_of_at hx
    rw [List.drop_eq_getElem_cons hl, bkI] at ih
    have hg : r.getD k 0 = r[k] := by simp [List.getD, List.getElem?_eq_getElem hl]
    rw [bkTo, hg]
    omega
set_option maxRecDepth 100000 in
theorem bkTo_all (q : Int → Int → Bool) (r : List Int) : bkTo q r r.length = bkI q r := by
  have h := bkTo_drop q r r.length (Nat.le_refl _)
  rw [List.drop_length] at h
  simpa [bkI] using h

end Go.Proofs.Ytkbbcglghfddjaa
