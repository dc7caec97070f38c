/- How many rank a candidate among the first k. -/
import Derived.Test.YtagepfgncbgncaaPlc
import Derived.Test.YtagepfgncbgncaaApp
import Derived.Test.YtagepfgncbgncaaCond
namespace Go.Proofs.Ytagepfgncbgncaa
open Go.RowKit

set_option maxRecDepth 100000 in
theorem sumV_nil (p : List Int → Bool) : sumV p [] = 0 := by simp [sumV]
set_option maxRecDepth 100000 in
theorem sumV_cons (p : List Int → Bool) (x : Vt) (vs : List Vt) : sumV p (x :: vs) = (if p x.1 then x.2 else 0) + sumV p vs := by
  unfold sumV
  cases h : p x.1 <;> simp [h]
set_option maxRecDepth 100000 in
theorem sumV_none : ∀ vs : List Vt, sumV (fun _ => false) vs = 0
  | [] => rfl
  | x :: vs => by rw [sumV_cons, sumV_none vs]; simp
set_option maxRecDepth 100000 in
theorem sumV_all : ∀ vs : List Vt, sumV (fun _ => true) vs = (vs.map Prod.snd).sum
  | [] => rfl
  | x :: vs => by rw [sumV_cons, sumV_all vs]; simp
set_option maxRecDepth 100000 in
theorem sumV_congr {p q : List Int → Bool} : ∀ {vs : List Vt}, (∀ x ∈ vs, p x.1 = q x.1) → sumV p vs = sumV q vs
  | [], _ => rfl
  | x :: vs, h => by rw [sumV_cons, sumV_cons, h x (by simp), sumV_congr (fun y hy => h y (by simp [hy]))]
set_option maxRecDepth 100000 in
theorem sumV_add {p q r : List Int → Bool} : ∀ {vs : List Vt}, (∀ x ∈ vs, r x.1 = (p x.1 || q x.1) ∧ (p x.1 && q x.1) = false) → sumV r vs = sumV p vs + sumV q vs
  | [], _ => by simp [sumV]
  | x :: vs, h => by
    obtain ⟨h1, h2⟩ := h x (by simp)
    rw [sumV_cons, sumV_cons, sumV_cons, h1, sumV_add (fun y hy => h y (by simp [hy]))]
    cases hp : p x.1 <;> cases hq : q x.1 <;> simp [hp, hq] at h2 ⊢ <;> omega
set_option maxRecDepth 100000 in
theorem SmallV.tail {sz : Int} {x : Vt} {vs : List Vt} (h : SmallV sz (x :: vs)) : SmallV sz vs := ⟨by have := h.1; simp at this; omega, fun y hy => h.2 y (by simp [hy])⟩

def wthP (a k : Nat) (r : List Int) : Bool := decide (placeI r a < (k : Int))
def wthV (vs : List Vt) (k a : Nat) : Int := sumV (wthP a k) vs
def sumN (f : Nat → Int) : Nat → Int
  | 0 => 0
  | k + 1 => sumN f k + f k
set_option maxRecDepth 100000 in
theorem wth_sum {n a : Nat} {vs : List Vt} (hS : SmallV n vs) (ha : a < n) : ∀ k, sumN (plcV vs a) k = wthV vs k a
  | 0 => by
    unfold sumN wthV
    rw [sumV_congr (q := fun _ => false) (fun x hx => by
      obtain ⟨p, _, hp, _⟩ := place_at (hS.2 x hx).1 ha
      simp [wthP, hp])]
    exact (sumV_none vs).symm
  | k + 1 => by
    unfold sumN
    rw [wth_sum hS ha k]
    unfold wthV plcV
    refine (sumV_add fun x hx => ?_).symm
    obtain ⟨p, _, hp, h1, h2⟩ := place_at (hS.2 x hx).1 ha
    have e : plcP a k x.1 = decide (p = k) := by
      by_cases e : p = k
      · subst e; simp [plcP, h1]
      · simp only [plcP, e, decide_false, beq_eq_false_iff_ne]
        exact fun h3 => e (h2 k h3).symm
    rw [e]
    unfold wthP
    rw [hp]
    by_cases h3 : p = k
    · have h4 : (p : Int) < ((k + 1 : Nat) : Int) := by omega
      have h5 : ¬ (p : Int) < (k : Int) := by omega
      rw [decide_eq_true h4, decide_eq_false h5, decide_eq_true h3]; simp
    · by_cases h4 : (p : Int) < (k : Int)
      · have h5 : (p : Int) < ((k + 1 : Nat) : Int) := by omega
        rw [decide_eq_true h4, decide_eq_true h5, decide_eq_false h3]; simp
      · have h5 : ¬ (p : Int) < ((k + 1 : Nat) : Int) := by omega
        rw [decide_eq_false h4, decide_eq_false h5, decide_eq_false h3]; simp
set_option maxRecDepth 100000 in
theorem sumN_bd {f : Nat → Int} {M : Int} (h : ∀ j, 0 ≤ f j ∧ f j ≤ M) : ∀ k, 0 ≤ sumN f k ∧ sumN f k ≤ M * k
  | 0 => by simp [sumN]
  | k + 1 => by
    have h1 := sumN_bd h k
    have h2 := h k
    unfold sumN
    have : M * ((k + 1 : Nat) : Int) = M * k + M := by rw [Int.natCast_succ, Int.mul_add]; simp
    omega
set_option maxRecDepth 100000 in
theorem wthV_bd {n : Int} {vs : List Vt} (hS : SmallV n vs) (k a : Nat) : 0 ≤ wthV vs k a ∧ wthV vs k a ≤ 24000 := sumV_bd' hS

set_option maxRecDepth 100000 in
/-- A row of a matrix of the call's own. -/
theorem WrSS.at_ {w : World} {B : Nat} {v : Value} {xss : List (List Int)} (h : WrSS w B v xss) {k : Nat} {xs : List Int} (hx : xss[k]? = some xs) :
    ∃ g c a' c', v = .slice (some ⟨g, 0, none⟩) xss.length c ∧ w.cell? ⟨g, k, none⟩ = some (.slice a' xs.length c') ∧ xs.length ≤ c' ∧ RdI w a' xs := by
  obtain ⟨a, c, hv, hc, ho⟩ := h
  obtain ⟨g, us, rfl, hM⟩ := ho (ne_of_at hx)
  have h1 := hM.row k (lt_of_at hx)
  simp only [List.getD, hx, Option.getD_some] at h1
  obtain ⟨a', c', hu, hc', _, hR, _⟩ := h1.val
  exact ⟨g, c, a', c', hv, by rw [hM.outer.cell k (lt_of_at hx), hu], hc', hR⟩

end Go.Proofs.Ytagepfgncbgncaa
