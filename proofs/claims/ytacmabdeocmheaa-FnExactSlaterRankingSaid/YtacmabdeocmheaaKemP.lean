/- The costs of a ranking by swaps, and the first ranking with the least cost (plain law). -/
import Derived.Test.YtacmabdeocmheaaMrk
import Derived.Test.YtacmabdeocmheaaBack
namespace Go.Proofs.Ytacmabdeocmheaa
open Go.RowKit

/-- Pairs that a list orders otherwise than xs. -/
def swapN (xs r : List Int) : Nat := bkI (fun y x => prefB r y x) xs
def kemV (vs : List Vt) (r : List Int) : Int := (vs.map (fun x => x.2 * (swapN x.1 r : Int))).sum
set_option maxRecDepth 100000 in
theorem kemV_at {vs : List Vt} {r : List Int} {k : Nat} {x : Vt} (hx : vs[k]? = some x) : kemV (vs.take (k + 1)) r = kemV (vs.take k) r + x.2 * (swapN x.1 r : Int) := by
  rw [take_at hx]; simp [kemV]
set_option maxRecDepth 100000 in
theorem swapN_bd {xs r : List Int} (h : xs.length ≤ 5) : swapN xs r ≤ 25 := by
  have h1 := bkI_bd (fun y x => prefB r y x) xs
  have h2 : xs.length * xs.length ≤ 5 * 5 := Nat.mul_le_mul h h
  unfold swapN
  omega
set_option maxRecDepth 100000 in
theorem kemV_bd {sz : Int} {vs : List Vt} {r : List Int} (hS : SmallV sz vs) : ∀ k, k ≤ vs.length → 0 ≤ kemV (vs.take k) r ∧ kemV (vs.take k) r ≤ 25000 * k
  | 0, _ => by simp [kemV]
  | k + 1, hk => by
    obtain ⟨x, hx⟩ := at_of_lt (xs := vs) (k := k) (by omega)
    have ih := kemV_bd (r := r) hS k (by omega)
    have h2 := hS.2 x (List.mem_of_getElem? hx)
    have h3 := swapN_bd (r := r) (rk_len h2.1).2
    rw [kemV_at hx]
    have h4 : 0 ≤ x.2 * (swapN x.1 r : Int) := Int.mul_nonneg (by omega) (by omega)
    have h5 : x.2 * (swapN x.1 r : Int) ≤ 1000 * 25 := Int.mul_le_mul (by omega) (by omega) (by omega) (by omega)
    omega
set_option maxRecDepth 100000 in
theorem kemV_bd' {sz : Int} {vs : List Vt} {r : List Int} (hS : SmallV sz vs) : 0 ≤ kemV vs r ∧ kemV vs r ≤ 600000 := by
  have h := kemV_bd (r := r) hS vs.length (Nat.le_refl _)
  rw [List.take_length] at h
  have := hS.1
  omega
/-- Pairs of a ranking of which the later one beats the earlier one. -/
def slaN (vs : List Vt) (r : List Int) : Int := (bkI (fun y x => beatsV vs y x) r : Nat)
set_option maxRecDepth 100000 in
theorem slaN_bd {vs : List Vt} {r : List Int} (h : r.length ≤ 5) : 0 ≤ slaN vs r ∧ slaN vs r ≤ 25 := by
  have h1 := bkI_bd (fun y x => beatsV vs y x) r
  have h2 : r.length * r.length ≤ 5 * 5 := Nat.mul_le_mul h h
  unfold slaN
  omega
/-- The first of all rankings with the least cost, this cost, and how many have it. -/
def lstR (cost : List Int → Int) (n : Nat) : List Int × Int × Nat := lstT cost (allO n) (allO n).length
def lstO (cost : List Int → Int) (sz : Int) (vs : List Vt) : List Int × Int × Nat := if profOk sz vs then lstR cost sz.toNat else ([], 0, 0)
set_option maxRecDepth 100000 in
theorem allO_pos {n : Nat} (n1 : 1 ≤ n) (n2 : n ≤ 5) : 1 ≤ (allO n).length := by
  obtain ⟨r, hr⟩ := allO_ne n1 n2
  obtain ⟨k, hk⟩ := List.mem_iff_getElem?.1 hr
  have := lt_of_at hk
  omega
set_option maxRecDepth 100000 in
theorem lstR_mem {cost : List Int → Int} {n : Nat} (n1 : 1 ≤ n) (n2 : n ≤ 5) : (lstR cost n).1 ∈ allO n ∧ (lstR cost n).2.1 = cost (lstR cost n).1 := lstT_mem _ (allO_pos n1 n2) (Nat.le_refl _)
set_option maxRecDepth 100000 in
theorem lstT_cnt {cost : List Int → Int} {xss : List (List Int)} : ∀ k, (lstT cost xss k).2.2 ≤ k
  | 0 => by simp [lstT]
  | k + 1 => by
    have ih := lstT_cnt (cost := cost) (xss := xss) k
    rw [lstT]
    split
    · simp
    · split
      · simp; omega
      · omega
set_option maxRecDepth 100000 in
theorem lstT_new {cost : List Int → Int} {xss : List (List Int)} {k : Nat} {r : List Int} (hr : xss[k]? = some r) (h : k = 0 ∨ cost r < (lstT cost xss k).2.1) : lstT cost xss (k + 1) = (r, cost r, 1) := by
  have hg : xss.getD k [] = r := by simp [List.getD, hr]
  rw [lstT, hg, if_pos h]
set_option maxRecDepth 100000 in
theorem lstT_tie {cost : List Int → Int} {xss : List (List Int)} {k : Nat} {r : List Int} (hr : xss[k]? = some r) (hk : k ≠ 0) (h : cost r = (lstT cost xss k).2.1) : lstT cost xss (k + 1) = ((lstT cost xss k).1, (lstT cost xss k).2.1, (lstT cost xss k).2.2 + 1) := by
  have hg : xss.getD k [] = r := by simp [List.getD, hr]
  rw [lstT, hg, if_neg (by omega), if_pos h]
set_option maxRecDepth 100000 in
theorem lstT_old {cost : List Int → Int} {xss : List (List Int)} {k : Nat} {r : List Int} (hr : xss[k]? = some r) (hk : k ≠ 0) (h : (lstT cost xss k).2.1 < cost r) : lstT cost xss (k + 1) = lstT cost xss k := by
  have hg : xss.getD k [] = r := by simp [List.getD, hr]
  rw [lstT, hg, if_neg (by omega), if_neg (by omega)]
set_option maxRecDepth 100000 in
theorem lstO_len (cost : List Int → Int) (sz : Int) (vs : List Vt) : (lstO cost sz vs).1.length ≤ 5 := by
  unfold lstO
  cases h0 : profOk sz vs
  · simp
  · obtain ⟨n, rfl, n1, n2⟩ := prof_nat h0
    simp only [if_true, Int.toNat_natCast]
    exact (rk_len ((allO_mem n1 n2).1 (lstR_mem n1 n2).1)).2
def kemO (sz : Int) (vs : List Vt) : List Int := (lstO (kemV vs) sz vs).1
def slaO (sz : Int) (vs : List Vt) : List Int := (lstO (slaN vs) sz vs).1
def slaW (sz : Int) (vs : List Vt) : Int := if profOk sz vs then (lstO (slaN vs) sz vs).2.1 else -1

end Go.Proofs.Ytacmabdeocmheaa
