/- The costs of a ranking by swaps, and the first ranking with the least cost (plain law). The first ranking with the least cost, of the program. The distance of a ranking by swaps, of the program, and the first ranking with the least one. Rankings that are changed (plain law). -/
import Derived.Test.YtkbbcglghfddjaaCf17
import Derived.Test.YtkbbcglghfddjaaCf16
import Derived.Test.YtkbbcglghfddjaaCf18
import Derived.Lib.BufferMore
namespace Go.Proofs.Ytkbbcglghfddjaa
open Go.RowKit

/-- Pairs that a list orders otherwise than xs. -/
def swapN (xs r : List Int) : Nat := bkI (fun y x => prefB r y x) xs
def kemV (vs : List Vt) (r : List Int) : Int := (vs.map (fun x => x.2 * (swapN x.1 r : Int))).sum
set_option maxRecDepth 100000 in
theorem kemV_at {vs : List Vt} {r : List Int} {k : Nat} {x : Vt} (hx : vs[k]? = some x) : kemV (vs.take (k + 1)) r = kemV (vs.take k) r + x.2 * (swapN x.1 r : Int) := by
  rw [take_at hx]; simp [kemV]
set_option maxRecDepth 100000 in
theorem swapN_bd {xs r : List Int} (h : xs.length ≤ 5) : swapN xs r ≤ 25 := by
  have h1 := bkI_bd (fun y x => prefB r y x) xs
  have h2 : xs.length * xs.length ≤ 5 * 5 := Nat.mul_le_mul h h
  unfold swapN
  omega
set_option maxRecDepth 100000 in
theorem kemV_bd {sz : Int} {vs : List Vt} {r : List Int} (hS : SmallV sz vs) : ∀ k, k ≤ vs.length → 0 ≤ kemV (vs.take k) r ∧ kemV (vs.take k) r ≤ 25000 * k
  | 0, _ => by simp [kemV]
  | k + 1, hk => by
    obtain ⟨x, hx⟩ := at_of_lt (xs := vs) (k := k) (by omega)
    have ih := kemV_bd (r := r) hS k (by omega)
    have h2 := hS.2 x (List.mem_of_getElem? hx)
    have h3 := swapN_bd (r := r) (rk_len h2.1).2
    rw [kemV_at hx]
    have h4 : 0 ≤ x.2 * (swapN x.1 r : Int) := Int.mul_nonneg (by omega) (by omega)
    have h5 : x.2 * (swapN x.1 r : Int) ≤ 1000 * 25 := Int.mul_le_mul (by omega) (by omega) (by omega) (by omega)
    omega
set_option maxRecDepth 100000 in
theorem kemV_bd' {sz : Int} {vs : List Vt} {r : List Int} (hS : SmallV sz vs) : 0 ≤ kemV vs r ∧ kemV vs r ≤ 600000 := by
  have h := kemV_bd (r := r) hS vs.length (Nat.le_refl _)
  rw [List.take_length] at h
  have := hS.1
  omega
/-- Pairs of a ranking of which the later one beats the earlier one. -/
def slaN (vs : List Vt) (r : List Int) : Int := (bkI (fun y x => beatsV vs y x) r : Nat)
set_option maxRecDepth 100000 in
theorem slaN_bd {vs : List Vt} {r : List Int} (h : r.length ≤ 5) : 0 ≤ slaN vs r ∧ slaN vs r ≤ 25 := by
  have h1 := bkI_bd (fun y x => beatsV vs y x) r
  have h2 : r.length * r.length ≤ 5 * 5 := Nat.mul_le_mul h h
  unfold slaN
  omega
/-- The first of all rankings with the least cost, this cost, and how many have it. -/
def lstR (cost : List Int → Int) (n : Nat) : List Int × Int × Nat := lstT cost (allO n) (allO n).length
def lstO (cost : List Int → Int) (sz : Int) (vs : List Vt) : List Int × Int × Nat := if profOk sz vs then lstR cost sz.toNat else ([], 0, 0)
set_option maxRecDepth 100000 in
theorem allO_pos {n : Nat} (n1 : 1 ≤ n) (n2 : n ≤ 5) : 1 ≤ (allO n).length := by
  obtain ⟨r, hr⟩ := allO_ne n1 n2
  obtain ⟨k, hk⟩ := List.mem_iff_getElem?.1 hr
  have := lt_of_at hk
  omega
set_option maxRecDepth 100000 in
theorem lstR_mem {cost : List Int → Int} {n : Nat} (n1 : 1 ≤ n) (n2 : n ≤ 5) : (lstR cost n).1 ∈ allO n ∧ (lstR cost n).2.1 = cost (lstR cost n).1 := lstT_mem _ (allO_pos n1 n2) (Nat.le_refl _)
set_option maxRecDepth 100000 in
theorem lstT_cnt {cost : List Int → Int} {xss : List (List Int)} : ∀ k, (lstT cost xss k).2.2 ≤ k
  | 0 => by simp [lstT]
  | k + 1 => by
    have ih := lstT_cnt (cost := cost) (xss := xss) k
    rw [lstT]
    split
    · simp
    · split
      · simp; omega
      · omega
set_option maxRecDepth 100000 in
theorem lstT_new {cost : List Int → Int} {xss : List (List Int)} {k : Nat} {r : List Int} (hr : xss[k]? = some r) (h : k = 0 ∨ cost r < (lstT cost xss k).2.1) : lstT cost xss (k + 1) = (r, cost r, 1) := by
  have hg : xss.getD k [] = r := by simp [List.getD, hr]
  rw [lstT, hg, if_pos h]
set_option maxRecDepth 100000 in
theorem lstT_tie {cost : List Int → Int} {xss : List (List Int)} {k : Nat} {r : List Int} (hr : xss[k]? = some r) (hk : k ≠ 0) (h : cost r = (lstT cost xss k).2.1) : lstT cost xss (k + 1) = ((lstT cost xss k).1, (lstT cost xss k).2.1, (lstT cost xss k).2.2 + 1) := by
  have hg : xss.getD k [] = r := by simp [List.getD, hr]
  rw [lstT, hg, if_neg (by omega), if_pos h]
set_option maxRecDepth 100000 in
theorem lstT_old {cost : List Int → Int} {xss : List (List Int)} {k : Nat} {r : List Int} (hr : xss[k]? = some r) (hk : k ≠ 0) (h : (lstT cost xss k).2.1 < cost r) : lstT cost xss (k + 1) = lstT cost xss k := by
  have hg : xss.getD k [] = r := by simp [List.getD, hr]
  rw [lstT, hg, if_neg (by omega), if_neg (by omega)]
set_option maxRecDepth 100000 in
theorem lstO_len (cost : List Int → Int) (sz : Int) (vs : List Vt) : (lstO cost sz vs).1.length ≤ 5 := by
  unfold lstO
  cases h0 : profOk sz vs
  · simp
  · obtain ⟨n, rfl, n1, n2⟩ := prof_nat h0
    simp only [if_true, Int.toNat_natCast]
    exact (rk_len ((allO_mem n1 n2).1 (lstR_mem n1 n2).1)).2
def kemO (sz : Int) (vs : List Vt) : List Int := (lstO (kemV vs) sz vs).1
def slaO (sz : Int) (vs : List Vt) : List Int := (lstO (slaN vs) sz vs).1
def slaW (sz : Int) (vs : List Vt) : Int := if profOk sz vs then (lstO (slaN vs) sz vs).2.1 else -1

set_option maxRecDepth 100000 in
set_option maxHeartbeats 1000000 in
theorem isRk_impl (w : World) (a : Option Addr) (c n : Nat) (xs : List Int) (hx : rkOk n xs = true) (hR : RdI w a xs) (hl : xs.length = n) (hc : n ≤ c) (n1 : inR (n : Int) 1 5 = true) :
    Calls Try.prog 54 #[.slice a n c] w fun e w' => e = .returned (.bool true) ∧ Ext w w' := by
  have h1 := rank_impl_n w n a c xs hR hl hc n1
  rw [hx] at h1
  have H1 := hide h1
  clear hx h1 hl hR
  go_enter Try.func54, Try.ntmps54
  go_wp2_with fail
  refine H1.out.mono ?_
  rintro e w1 ⟨rfl, hw1⟩
  go_wp2
  go_ret
  exact ⟨rfl, hw1⟩

set_option maxRecDepth 100000 in
theorem rk_perm_ok {m : Int} {xs ys : List Int} (h : ys.Perm xs) (hr : rkOk m xs = true) : rkOk m ys = true := by
  have hl := h.length_eq
  unfold rkOk at hr ⊢
  simp only [Bool.and_eq_true, decide_eq_true_eq, List.all_eq_true] at hr ⊢
  obtain ⟨h1, h2, h3, h4⟩ := hr
  exact ⟨h1, by omega, fun x hx => h3 x (h.mem_iff.1 hx), h.nodup_iff.2 h4⟩
/-- One place up. -/
def raiseL (xs : List Int) (i : Nat) : List Int := (xs.set (i - 1) (xs.getD i 0)).set i (xs.getD (i - 1) 0)
set_option maxRecDepth 100000 in
theorem raise_len (xs : List Int) (i : Nat) : (raiseL xs i).length = xs.length := by unfold raiseL; rw [List.length_set, List.length_set]
set_option maxRecDepth 100000 in
theorem raise_ok {m : Int} {xs : List Int} {i : Nat} (hr : rkOk m xs = true) (hi : i < xs.length) : rkOk m (raiseL xs i) = true := by
  refine rk_perm_ok ?_ hr
  unfold raiseL
  have h1 : xs.getD i 0 = xs[i] := by simp [List.getD, List.getElem?_eq_getElem hi]
  have hi2 : i - 1 < xs.length := by omega
  have h2 : xs.getD (i - 1) 0 = xs[i - 1] := by simp [List.getD, List.getElem?_eq_getElem hi2]
  rw [h1, h2]
  exact List.set_set_perm hi2 hi
set_option maxRecDepth 100000 in
theorem raise_at {xs : List Int} {i : Nat} (h1 : 1 ≤ i) (hi : i < xs.length) (j : Nat) (hj : j < xs.length) : (raiseL xs i).getD j 0 = if j = i then xs.getD (i - 1) 0 else if j = i - 1 then xs.getD i 0 else xs.getD j 0 := by
  unfold raiseL
  rw [List.getD_eq_getElem?_getD, List.getElem?_set]
  by_cases e : j = i
  · subst e
    rw [if_pos rfl, if_pos rfl, List.length_set, if_pos hj]; rfl
  · rw [if_neg (fun h => e h.symm), if_neg e, List.getElem?_set]
    by_cases e2 : j = i - 1
    · rw [if_pos e2.symm, if_pos e2, if_pos (by omega)]; rfl
    · rw [if_neg (fun h => e2 h.symm), if_neg e2, List.getD_eq_getElem?_getD]
/-- A number without a candidate. -/
def dropV (a x : Int) : List Int := if x < a then [x] else if a < x then [x - 1] else []
def dropL (a : Int) (xs : List Int) : List Int := xs.flatMap (dropV a)
set_option maxRecDepth 100000 in
theorem dropL_at {a : Int} {xs : List Int} {k : Nat} {x : Int} (hx : xs[k]? = some x) : dropL a (xs.take (k + 1)) = dropL a (xs.take k) ++ dropV a x := by rw [take_at hx]; simp [dropL]
set_option maxRecDepth 100000 in
theorem dropL_len (a : Int) : ∀ xs : List Int, (dropL a xs).length ≤ xs.length
  | [] => by simp [dropL]
  | x :: xs => by
    have ih := dropL_len a xs
    have h1 : (dropV a x).length ≤ 1 := by
      unfold dropV
      split
      · simp
      · split <;> simp
    have e : dropL a (x :: xs) = dropV a x ++ dropL a xs := by unfold dropL; rw [List.flatMap_cons]
    rw [e, List.length_append, List.length_cons]
    omega
def downV (a b : Int) : Int := if a < b then b - 1 else b
set_option maxRecDepth 100000 in
theorem dropL_filter (a : Int) : ∀ xs : List Int, dropL a xs = (xs.filter (fun y => !(y == a))).map (downV a)
  | [] => rfl
  | x :: xs => by
    have ih := dropL_filter a xs
    unfold dropL at ih ⊢
    rw [List.flatMap_cons, ih, List.filter_cons]
    unfold dropV downV
    rcases Int.lt_trichotomy x a with h | h | h
    · have hb : (x == a) = false := by rw [beq_eq_false_iff_ne]; omega
      rw [if_pos h, hb]
      simp; omega
    · subst h
      simp
    · have hb : (x == a) = false := by rw [beq_eq_false_iff_ne]; omega
      rw [if_neg (by omega), if_pos h, hb]
      simp; omega
set_option maxRecDepth 100000 in
theorem dropL_erase {a : Int} {xs : List Int} {i : Nat} (hd : xs.Nodup) (hi : xs[i]? = some a) : dropL a xs = (xs.eraseIdx i).map (downV a) := by rw [dropL_filter, erase_filter hd hi]
/-- Votes of which each ranking is changed. -/
def mapV (F : List Int → List Int) (vs : List Vt) : List Vt := vs.map (fun x => (F x.1, x.2))
set_option maxRecDepth 100000 in
theorem mapV_len (F : List Int → List Int) (vs : List Vt) : (mapV F vs).length = vs.length := by unfold mapV; rw [List.length_map]
/-- The first number below n of which something holds, or -1. -/
def firstN (n : Nat) (q : Nat → Bool) : Int := match (List.range n).find? q with | some k => (k : Int) | none => -1
set_option maxRecDepth 100000 in
theorem firstN_some {n k : Nat} {q : Nat → Bool} (hk : k < n) (h1 : ∀ j, j < k → q j = false) (h2 : q k = true) : firstN n q = k := by
  unfold firstN
  have : (List.range n).find? q = some k := by
    rw [List.find?_range_eq_some]
    exact ⟨h2, List.mem_range.2 hk, fun j hj => by simpa using h1 j hj⟩
  rw [this]
set_option maxRecDepth 100000 in
theorem firstN_none {n : Nat} {q : Nat → Bool} (h : ∀ j, j < n → q j = false) : firstN n q = -1 := by
  unfold firstN
  have : (List.range n).find? q = none := by
    rw [List.find?_eq_none]
    intro x hx
    rw [h x (List.mem_range.1 hx)]; decide
  rw [this]
set_option maxRecDepth 100000 in
theorem none_succ {q : Nat → Bool} {k : Nat} (h : ∀ j, j < k → q j = false) (hk : q k = false) : ∀ j, j < k + 1 → q j = false := fun j hj => by
  rcases Nat.lt_succ_iff_lt_or_eq.1 hj with h1 | rfl
  · exact h j h1
  · exact hk

end Go.Proofs.Ytkbbcglghfddjaa
