/- Eliminations of the reference. -/
import Derived.Test.YtacmabdeocmheaaElimS
namespace Go.Proofs.Ytacmabdeocmheaa
open Go.RowKit

set_option maxRecDepth 100000 in
set_option maxHeartbeats 1000000 in
theorem out_spec (w : World) (a : Option Addr) (c : Nat) (out : List Int) (x : Int) (hR : RdI w a out) (hl : out.length ≤ 2000000) :
    Calls Try.prog 145 #[.slice a out.length c, .int .i64 x] w fun e w' => e = .returned (.bool (hasI out x)) ∧ Ext w w' := by
  have he : decide (0 ≤ placeI out x) = hasI out x := by
    unfold placeI
    rw [findI_nonneg, Bool.eq_iff_iff, List.any_eq_true, hasI_iff]
    constructor
    · rintro ⟨y, hy, h⟩
      have : x = y := by simpa using h
      subst this; exact hy
    · intro h; exact ⟨x, h, by simp⟩
  go_enter Try.func145, Try.ntmps145
  go_wp2_with (go_at_call 236; refine (place_spec _ _ _ _ _ (hR.ext (by repeat (first | exact Ext.refl _ | assumption | refine Ext.alloc ?_ _ | refine Ext.drew ?_ | refine Ext.trans ?_ (by assumption)))) hl).mono ?_; rintro e w1 ⟨rfl, hw1⟩)
  go_ret
  exact ⟨rfl, (by repeat (first | exact Ext.refl _ | assumption | refine Ext.alloc ?_ _ | refine Ext.drew ?_ | refine Ext.trans ?_ (by assumption)))⟩

def numC (out : List Int) (x : Int) (last : Bool) (r : List Int) (b : Nat) : Bool := (((b : Int) == x) || hasI out b) || (prefB r x b != last)
def numP (n : Nat) (out : List Int) (x : Int) (last : Bool) (r : List Int) : Bool := allN n (numC out x last r)

set_option maxRecDepth 100000 in
theorem num_first {n : Nat} {vs : List Vt} (hS : SmallV n vs) {x : Nat} (hx : x < n) (out : List Int) : sumV (numP n out x false) vs = worF vs (leftL n out) x := by
  unfold worF
  refine sumV_congr fun v hv => ?_
  have hr := (hS.2 v hv).1
  unfold numP fsP
  rw [Bool.eq_iff_iff, allN_iff, Bool.not_eq_true', List.any_eq_false]
  constructor
  · intro h b hb
    obtain ⟨i, hi, hio, rfl⟩ := leftL_mem.1 hb
    have h1 := h i hi
    have h2 : hasI out (i : Int) = false := by
      cases h3 : hasI out (i : Int)
      · rfl
      · exact absurd (hasI_iff.1 h3) hio
    by_cases e : i = x
    · subst e; rw [pref_self]; simp
    · rw [pref_tot hr hi hx e]
      have h4 : ((i : Int) == (x : Int)) = false := by simp; omega
      simp only [numC, h2, h4] at h1
      simp at h1
      simp [h1]
  · intro h i hi
    unfold numC
    by_cases e : i = x
    · subst e; simp
    · cases h3 : hasI out (i : Int)
      · have h1 := h (i : Int) (leftL_mem.2 ⟨i, hi, (fun h4 => by rw [hasI_iff.2 h4] at h3; cases h3), rfl⟩)
        rw [pref_tot hr hi hx e] at h1
        simp at h1
        simp [h1]
      · simp
set_option maxRecDepth 100000 in
theorem num_last {n : Nat} {vs : List Vt} {x : Nat} (out : List Int) : sumV (numP n out x true) vs = sumV (lsP (leftL n out) x) vs := by
  refine sumV_congr fun v hv => ?_
  unfold numP lsP
  rw [Bool.eq_iff_iff, allN_iff, Bool.not_eq_true', List.any_eq_false]
  constructor
  · intro h b hb
    obtain ⟨i, hi, hio, rfl⟩ := leftL_mem.1 hb
    have h1 := h i hi
    have h2 : hasI out (i : Int) = false := by
      cases h3 : hasI out (i : Int)
      · rfl
      · exact absurd (hasI_iff.1 h3) hio
    by_cases e : i = x
    · subst e; rw [pref_self]; simp
    · have h4 : ((i : Int) == (x : Int)) = false := by simp; omega
      simp only [numC, h2, h4] at h1
      simp at h1
      simp [h1]
  · intro h i hi
    unfold numC
    cases h3 : hasI out (i : Int)
    · have h1 := h (i : Int) (leftL_mem.2 ⟨i, hi, (fun h4 => by rw [hasI_iff.2 h4] at h3; cases h3), rfl⟩)
      simp at h1
      simp [h1]
    · simp

def sumO (vs : List Vt) (out : List Int) (x : Int) : Nat → Int
  | 0 => 0
  | k + 1 => sumO vs out x k + if !((k : Int) == x) && !hasI out k then pairV vs x k else 0
set_option maxRecDepth 100000 in
theorem sumO_bd {sz : Int} {vs : List Vt} (hS : SmallV sz vs) (out : List Int) (x : Int) : ∀ k : Nat, 0 ≤ sumO vs out x k ∧ sumO vs out x k ≤ 24000 * k
  | 0 => by simp [sumO]
  | k + 1 => by
    have h1 := sumO_bd hS out x k
    have h2 : 0 ≤ pairV vs x k ∧ pairV vs x k ≤ 24000 := sumV_bd' hS
    unfold sumO
    split <;> omega
set_option maxRecDepth 100000 in
theorem pair_self (vs : List Vt) (x : Int) : pairV vs x x = 0 := by
  unfold pairV
  rw [sumV_congr (q := fun _ => false) (fun v _ => pref_self _ _), sumV_none]
set_option maxRecDepth 100000 in
theorem sumO_left (vs : List Vt) (out : List Int) (x : Int) : ∀ k : Nat, sumO vs out x k = worP vs (leftL k out) x
  | 0 => rfl
  | k + 1 => by
    have e : leftL (k + 1) out = leftL k out ++ if notIn out k then [(k : Int)] else [] := upL_succ k (notIn out)
    rw [sumO, sumO_left vs out x k, e]
    unfold worP notIn
    rw [List.map_append, List.sum_append]
    cases h1 : hasI out (k : Int)
    · by_cases h2 : (k : Int) = x
      · subst h2; simp [pair_self]
      · simp [h2]
    · simp

/-- The worth by kind: first places, last places, pairs. -/
def worK (vs : List Vt) (kind : Nat) : List Int → Int → Int := if kind = 0 then worF vs else if kind = 1 then worL vs else worP vs

end Go.Proofs.Ytacmabdeocmheaa
