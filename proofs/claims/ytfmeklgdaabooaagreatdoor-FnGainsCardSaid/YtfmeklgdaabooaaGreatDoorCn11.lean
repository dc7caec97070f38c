/- Pairs of a list in which something holds for the later and the earlier one, counted in two ways (plain law). Rankings: all of them stand in the list of all rankings; the one in which each beats all behind it (plain law). The pairs of which the first one beats the second one, and those that are kept (plain law). The order that the kept pairs give (plain definition). The costs of a ranking by swaps, and the first ranking with the least cost (plain law). -/
import Derived.Test.YtfmeklgdaabooaaGreatDoorCn10
import Derived.Test.YtfmeklgdaabooaaGreatDoorCn5
import Derived.Test.YtfmeklgdaabooaaGreatDoorCn6
namespace Go.Proofs.YtfmeklgdaabooaaGreatDoor
open Go.RowKit

/-- Counted from the earlier one. -/
def bkI (q : Int → Int → Bool) : List Int → Nat
  | [] => 0
  | x :: xs => xs.countP (fun y => q y x) + bkI q xs
/-- Counted from the later one. -/
def bkS (q : Int → Int → Bool) (r : List Int) (i : Nat) : Nat := match i with
  | 0 => 0
  | k + 1 => bkS q r k + (r.take k).countP (fun y => q (r.getD k 0) y)
set_option maxRecDepth 100000 in
theorem bkI_snoc (q : Int → Int → Bool) : ∀ (xs : List Int) (y : Int), bkI q (xs ++ [y]) = bkI q xs + xs.countP (fun x => q y x)
  | [], y => by simp [bkI]
  | x :: xs, y => by
    rw [List.cons_append, bkI, bkI_snoc q xs y, bkI, List.countP_append, List.countP_cons]
    simp only [List.countP_cons, List.countP_nil]
    omega
set_option maxRecDepth 100000 in
theorem bkS_bkI (q : Int → Int → Bool) (r : List Int) : ∀ k, k ≤ r.length → bkS q r k = bkI q (r.take k)
  | 0, _ => by simp [bkS, bkI]
  | k + 1, h => by
    obtain ⟨x, hx⟩ := at_of_lt (xs := r) (k := k) (by omega)
    rw [take_at hx, bkI_snoc, bkS, bkS_bkI q r k (by omega)]
    have : r.getD k 0 = x := by simp [List.getD, hx]
    rw [this]
set_option maxRecDepth 100000 in
theorem bkS_all (q : Int → Int → Bool) (r : List Int) : bkS q r r.length = bkI q r := by rw [bkS_bkI q r _ (Nat.le_refl _), List.take_length]
set_option maxRecDepth 100000 in
theorem bkI_bd (q : Int → Int → Bool) : ∀ xs : List Int, bkI q xs ≤ xs.length * xs.length
  | [] => by simp [bkI]
  | x :: xs => by
    have h := bkI_bd q xs
    have h2 := List.countP_le_length (p := fun y => q y x) (l := xs)
    rw [bkI, List.length_cons, Nat.add_mul, Nat.mul_add]
    omega
set_option maxRecDepth 100000 in
theorem bkI_congr {q q' : Int → Int → Bool} : ∀ {xs : List Int}, (∀ x ∈ xs, ∀ y ∈ xs, q x y = q' x y) → bkI q xs = bkI q' xs
  | [], _ => rfl
  | x :: xs, h => by
    rw [bkI, bkI, bkI_congr (xs := xs) (fun a ha b hb => h a (by simp [ha]) b (by simp [hb]))]
    congr 1
    exact List.countP_congr (fun y hy => by rw [h y (by simp [hy]) x (by simp)])
set_option maxRecDepth 100000 in
theorem bkI_zero {q : Int → Int → Bool} : ∀ {xs : List Int}, bkI q xs = 0 ↔ xs.Pairwise (fun x y => q y x = false)
  | [] => by simp [bkI]
  | x :: xs => by
    rw [bkI, List.pairwise_cons, ← bkI_zero (q := q) (xs := xs)]
    constructor
    · intro h
      have h1 : xs.countP (fun y => q y x) = 0 := by omega
      rw [List.countP_eq_zero] at h1
      exact ⟨fun y hy => by simpa using h1 y hy, by omega⟩
    · intro ⟨h1, h2⟩
      have : xs.countP (fun y => q y x) = 0 := by
        rw [List.countP_eq_zero]
        intro y hy
        rw [h1 y hy]; decide
      omega
/-- The part of the count from the earlier ones, up to place i, and in the middle of it. -/
def bkTo (q : Int → Int → Bool) (r : List Int) : Nat → Nat
  | 0 => 0
  | k + 1 => bkTo q r k + (r.drop (k + 1)).countP (fun y => q y (r.getD k 0))
set_option maxRecDepth 100000 in
theorem bkTo_drop (q : Int → Int → Bool) (r : List Int) : ∀ k, k ≤ r.length → bkTo q r k + bkI q (r.drop k) = bkI q r
  | 0, _ => by simp [bkTo]
  | k + 1, h => by
    obtain ⟨x, hx⟩ := at_of_lt (xs := r) (k := k) (by omega)
    have ih := bkTo_drop q r k (by omega)
    have hl := lt_of_at hx
    rw [List.drop_eq_getElem_cons hl, bkI] at ih
    have hg : r.getD k 0 = r[k] := by simp [List.getD, List.getElem?_eq_getElem hl]
    rw [bkTo, hg]
    omega
set_option maxRecDepth 100000 in
theorem bkTo_all (q : Int → Int → Bool) (r : List Int) : bkTo q r r.length = bkI q r := by
  have h := bkTo_drop q r r.length (Nat.le_refl _)
  rw [List.drop_length] at h
  simpa [bkI] using h

set_option maxRecDepth 100000 in
theorem leftL_snoc {n : Nat} {out : List Int} {x y : Int} : y ∈ leftL n (out ++ [x]) ↔ y ∈ leftL n out ∧ y ≠ x := by
  rw [leftL_mem, leftL_mem]
  constructor
  · rintro ⟨i, hi, hn, rfl⟩
    rw [List.mem_append] at hn
    exact ⟨⟨i, hi, fun h => hn (.inl h), rfl⟩, fun h => hn (.inr (by simp [h]))⟩
  · rintro ⟨⟨i, hi, hn, rfl⟩, hne⟩
    refine ⟨i, hi, fun h => ?_, rfl⟩
    rcases List.mem_append.1 h with h | h
    · exact hn h
    · simp at h; exact hne h
set_option maxRecDepth 100000 in
theorem leftL_drop {n : Nat} {out : List Int} {x : Int} (h : x ∈ leftL n out) : (leftL n (out ++ [x])).length + 1 = (leftL n out).length := by
  obtain ⟨i, hi⟩ := List.mem_iff_getElem?.1 h
  have hlt := lt_of_at hi
  rw [← leftL_erase hi, List.length_eraseIdx, if_pos hlt]
  omega
set_option maxRecDepth 100000 in
theorem allS_mem (n : Nat) : ∀ (k : Nat) (pre : List Int), (leftL n pre).length = k → ∀ r : List Int, r ∈ allS n k pre ↔ ∃ s : List Int, r = pre ++ s ∧ s.Nodup ∧ s.length = k ∧ ∀ x ∈ s, x ∈ leftL n pre
  | 0, pre, _, r => by
    simp only [allS, List.mem_singleton]
    constructor
    · rintro rfl; exact ⟨[], by simp, List.nodup_nil, rfl, fun x h => by simp at h⟩
    · rintro ⟨s, rfl, _, hl, _⟩
      have : s = [] := List.length_eq_zero_iff.1 hl
      subst this; simp
  | k + 1, pre, hl, r => by
    rw [allS, List.mem_flatMap]
    constructor
    · rintro ⟨x, hx, hr⟩
      have hd := leftL_drop hx
      obtain ⟨s, rfl, hs1, hs2, hs3⟩ := (allS_mem n k (pre ++ [x]) (by omega) r).1 hr
      refine ⟨x :: s, by simp, List.nodup_cons.2 ⟨fun h => (leftL_snoc.1 (hs3 x h)).2 rfl, hs1⟩, by simp [hs2], fun y hy => ?_⟩
      rcases List.mem_cons.1 hy with rfl | hy
      · exact hx
      · exact (leftL_snoc.1 (hs3 y hy)).1
    · rintro ⟨s, rfl, hs1, hs2, hs3⟩
      cases s with
      | nil => simp at hs2
      | cons x s =>
        have hx := hs3 x (by simp)
        have hd := leftL_drop hx
        rw [List.nodup_cons] at hs1
        refine ⟨x, hx, (allS_mem n k (pre ++ [x]) (by omega) _).2 ⟨s, by simp, hs1.2, by simpa using hs2, fun y hy => leftL_snoc.2 ⟨hs3 y (by simp [hy]), ?_⟩⟩⟩
        rintro rfl; exact hs1.1 hy
set_option maxRecDepth 100000 in
theorem allO_mem {n : Nat} (n1 : 1 ≤ n) (n2 : n ≤ 5) {r : List Int} : r ∈ allO n ↔ rkOk n r = true := by
  unfold allO
  rw [allS_mem n n [] (by rw [leftL_nil, upL_true_len])]
  have hin : inR (n : Int) 1 5 = true := inR_iff.2 (by omega)
  constructor
  · rintro ⟨s, rfl, h1, h2, h3⟩
    simp only [rkOk, hin, Bool.true_and, Bool.and_eq_true, decide_eq_true_eq, List.all_eq_true]
    refine ⟨by omega, fun x hx => ?_, h1⟩
    obtain ⟨i, hi, _, rfl⟩ := leftL_mem.1 (h3 x hx)
    rw [inR_iff]; omega
  · intro h
    have h1 := rk_nodup h
    have h2 := (rk_len h).1
    refine ⟨r, by simp, h1, by omega, fun x hx => ?_⟩
    have h3 := rk_mem h hx
    exact leftL_mem.2 ⟨x.toNat, by omega, by simp, by omega⟩
set_option maxRecDepth 100000 in
theorem allO_ne {n : Nat} (n1 : 1 ≤ n) (n2 : n ≤ 5) : ∃ r, r ∈ allO n := by
  refine ⟨upL n (fun _ => true), (allO_mem n1 n2).2 ?_⟩
  have hin : inR (n : Int) 1 5 = true := inR_iff.2 (by omega)
  simp only [rkOk, hin, Bool.true_and, Bool.and_eq_true, decide_eq_true_eq, List.all_eq_true]
  refine ⟨by rw [upL_true_len], fun x hx => ?_, upL_nodup _ _⟩
  obtain ⟨i, hi, _, rfl⟩ := upL_mem.1 hx
  rw [inR_iff]; omega
set_option maxRecDepth 100000 in
/-- A ranking holds the candidates, in its order. -/
theorem rk_perm {n : Nat} {r : List Int} (h : rkOk n r = true) : r.Perm (upL n (fun _ => true)) := by
  rw [List.perm_ext_iff_of_nodup (rk_nodup h) (upL_nodup _ _)]
  intro x
  rw [upL_mem]
  constructor
  · intro hx
    have := rk_mem h hx
    exact ⟨x.toNat, by omega, rfl, by omega⟩
  · rintro ⟨i, hi, _, rfl⟩
    exact rk_all h hi
set_option maxRecDepth 100000 in
theorem cntN_perm {n : Nat} {r : List Int} (h : rkOk n r = true) (p : Int → Bool) : cntN n (fun j => p j) = r.countP p := by
  rw [(rk_perm h).countP_eq]
  unfold cntN upL
  rw [List.filter_eq_self.2 (fun _ _ => rfl), List.countP_map]
  rfl

/-- Each beats all that stand behind it. -/
def mjQ (vs : List Vt) (y x : Int) : Bool := !beatsV vs x y
def mjOk (vs : List Vt) (r : List Int) : Bool := decide (bkI (mjQ vs) r = 0)
set_option maxRecDepth 100000 in
theorem mjOk_iff {vs : List Vt} {r : List Int} : mjOk vs r = true ↔ r.Pairwise (fun x y => beatsV vs x y = true) := by
  unfold mjOk
  rw [decide_eq_true_iff, bkI_zero]
  have : (fun x y => mjQ vs y x = false) = (fun x y => beatsV vs x y = true) := by
    funext x y; simp [mjQ]
  rw [this]
def mjO (n : Nat) (vs : List Vt) : Option (List Int) := (allO n).find? (mjOk vs)

set_option maxRecDepth 100000 in
theorem beatsV_anti {vs : List Vt} {x y : Int} (h : beatsV vs x y = true) : beatsV vs y x = false := by
  unfold beatsV at *
  simp only [decide_eq_true_eq, decide_eq_false_iff_not] at *
  omega
set_option maxRecDepth 100000 in
theorem beatsV_self (vs : List Vt) (x : Int) : beatsV vs x x = false := by simp [beatsV]
set_option maxRecDepth 100000 in
/-- In such a ranking the one at place i beats all but i + 1. -/
theorem mj_count {vs : List Vt} : ∀ {r : List Int} {i : Nat} {x : Int}, r.Pairwise (fun x y => beatsV vs x y = true) → r[i]? = some x → r.countP (fun y => beatsV vs x y) + (i + 1) = r.length
  | [], i, x, _, h => by simp at h
  | z :: zs, 0, x, hp, h => by
    simp at h
    subst h
    rw [List.pairwise_cons] at hp
    have : zs.countP (fun y => beatsV vs z y) = zs.length := List.countP_eq_length.2 (fun y hy => hp.1 y hy)
    rw [List.countP_cons, beatsV_self, this]
    simp
  | z :: zs, i + 1, x, hp, h => by
    rw [List.pairwise_cons] at hp
    simp only [List.getElem?_cons_succ] at h
    have ih := mj_count hp.2 h
    have hz := beatsV_anti (hp.1 x (List.mem_of_getElem? h))
    rw [List.countP_cons, hz, List.length_cons]
    simp; omega
set_option maxRecDepth 100000 in
theorem ups_at {n : Nat} {vs : List Vt} {r : List Int} (h : rkOk n r = true) (hp : mjOk vs r = true) {i : Nat} {x : Int} (hx : r[i]? = some x) : ∃ a : Nat, x = a ∧ a < n ∧ (upsL n vs)[a]? = some (((n - 1 - i : Nat)) : Int) := by
  have hm := rk_mem h (List.mem_of_getElem? hx)
  have hl := (rk_len h).1
  have hi := lt_of_at hx
  refine ⟨x.toNat, by omega, by omega, ?_⟩
  have hc := mj_count (mjOk_iff.1 hp) hx
  have hcn := cntN_perm h (fun y => beatsV vs x y)
  have e : (bt vs x.toNat) = (fun j : Nat => beatsV vs x (j : Int)) := by
    funext j
    unfold bt
    rw [show ((x.toNat : Nat) : Int) = x by omega]
  unfold upsL
  rw [rowL_at (show x.toNat < n by omega), e, hcn]
  congr 1
  omega
/-- The spec's candidate for that ranking. -/
def mjS (n : Nat) (vs : List Vt) : List Int := rowL n (fun i => placeI (upsL n vs) ((n : Int) - 1 - i))
set_option maxRecDepth 100000 in
theorem mjS_eq {n : Nat} {vs : List Vt} {r : List Int} (h : rkOk n r = true) (hp : mjOk vs r = true) : mjS n vs = r := by
  have hl := (rk_len h).1
  refine List.ext_getElem? (fun i => ?_)
  by_cases hi : i < n
  · obtain ⟨x, hx⟩ := at_of_lt (xs := r) (k := i) (by omega)
    rw [hx]
    unfold mjS
    rw [rowL_at hi]
    obtain ⟨a, rfl, ha, hat⟩ := ups_at h hp hx
    congr 1
    have e : ((n : Int) - 1 - (i : Int)) = ((n - 1 - i : Nat) : Int) := by omega
    unfold placeI
    rw [e]
    refine findI_some hat ?_ (by simp)
    rw [List.all_eq_true]
    intro y hy
    obtain ⟨b, hb⟩ := List.mem_iff_getElem?.1 hy
    have hba : b < a := by have := lt_of_at hb; rw [List.length_take] at this; omega
    rw [List.getElem?_take_of_lt hba] at hb
    obtain ⟨j, hj, _, hjb, _⟩ := place_at h (a := b) (by omega)
    obtain ⟨b', hb', _, hbt⟩ := ups_at h hp hjb
    have : b' = b := by omega
    subst this
    rw [hb] at hbt
    injection hbt with hbt
    have hne : j ≠ i := fun e => by subst e; rw [hx] at hjb; injection hjb with hjb; omega
    rw [hbt]
    have : (((n - 1 - i : Nat) : Int) == ((n - 1 - j : Nat) : Int)) = false := by
      rw [beq_eq_false_iff_ne]; omega
    rw [this]; rfl
  · have h1 : (mjS n vs)[i]? = none := List.getElem?_eq_none (by unfold mjS; rw [rowL_len]; omega)
    have h2 : r[i]? = none := List.getElem?_eq_none (by omega)
    rw [h1, h2]
set_option maxRecDepth 100000 in
theorem mjS_ok {n : Nat} {vs : List Vt} (n1 : 1 ≤ n) (n2 : n ≤ 5) (h : ∀ i : Nat, i < n → 0 ≤ placeI (upsL n vs) ((n : Int) - 1 - i)) : rkOk n (mjS n vs) = true := by
  have hin : inR (n : Int) 1 5 = true := inR_iff.2 (by omega)
  have hpl : ∀ v : Int, 0 ≤ placeI (upsL n vs) v → (upsL n vs)[(placeI (upsL n vs) v).toNat]? = some v ∧ placeI (upsL n vs) v < n := by
    intro v hv
    unfold placeI findI at hv ⊢
    split at hv
    · rename_i k hk
      rw [List.findIdx?_eq_some_iff_getElem] at hk
      obtain ⟨h1, h2, _⟩ := hk
      have h3 : v = (upsL n vs)[k] := by simpa using h2
      have h4 : (upsL n vs).length = n := rowL_len _ _
      refine ⟨?_, by omega⟩
      rw [Int.toNat_natCast, List.getElem?_eq_getElem h1, ← h3]
    · omega
  simp only [rkOk, hin, Bool.true_and, Bool.and_eq_true, decide_eq_true_eq, List.all_eq_true]
  refine ⟨by unfold mjS; rw [rowL_len], fun x hx => ?_, ?_⟩
  · obtain ⟨i, hi⟩ := List.mem_iff_getElem?.1 hx
    obtain ⟨hj, rfl⟩ := rowL_val hi
    have h1 := h i hj
    have h2 := (hpl _ h1).2
    rw [inR_iff]; omega
  · unfold mjS rowL
    refine List.Pairwise.map _ (fun a b hab => ?_) (List.pairwise_lt_range.imp_of_mem (fun ha hb hlt => (⟨hlt, List.mem_range.1 ha, List.mem_range.1 hb⟩ : _ ∧ _ ∧ _)))
    obtain ⟨hlt, ha, hb⟩ := hab
    intro e
    have h1 := (hpl _ (h a ha)).1
    have h2 := (hpl _ (h b hb)).1
    rw [e, h2] at h1
    injection h1 with h1
    omega
set_option maxRecDepth 100000 in
/-- The program's answer, as the spec finds it. -/
theorem mj_eq {n : Nat} {vs : List Vt} (n1 : 1 ≤ n) (n2 : n ≤ 5) : mjO n vs = if (∀ i : Nat, i < n → 0 ≤ placeI (upsL n vs) ((n : Int) - 1 - i)) ∧ mjOk vs (mjS n vs) = true then some (mjS n vs) else none := by
  unfold mjO
  cases hf : (allO n).find? (mjOk vs) with
  | none =>
    rw [List.find?_eq_none] at hf
    rw [if_neg]
    rintro ⟨h1, h2⟩
    exact hf _ ((allO_mem n1 n2).2 (mjS_ok n1 n2 h1)) h2
  | some r =>
    have hr := List.find?_some hf
    have hm := (allO_mem n1 n2).1 (List.mem_of_find?_eq_some hf)
    have he := mjS_eq hm hr
    have hlen := (rk_len hm).1
    have h1 : ∀ i : Nat, i < n → 0 ≤ placeI (upsL n vs) ((n : Int) - 1 - i) := fun i hi => by
      obtain ⟨x, hx⟩ := at_of_lt (xs := r) (k := i) (by omega)
      have := rk_mem hm (List.mem_of_getElem? hx)
      rw [← he] at hx
      unfold mjS at hx
      rw [rowL_at hi] at hx
      injection hx with hx
      omega
    rw [if_pos ⟨h1, by rw [he]; exact hr⟩, he]
set_option maxRecDepth 100000 in
/-- The spec's test of the pairs. -/
theorem mj_not {vs : List Vt} {r : List Int} {i j : Nat} {x y : Int} (hij : i < j) (hx : r[i]? = some x) (hy : r[j]? = some y) (hb : beatsV vs x y = false) : mjOk vs r = false := by
  cases h : mjOk vs r
  · rfl
  · have h1 := mjOk_iff.1 h
    have l1 := lt_of_at hx
    have l2 := lt_of_at hy
    have := List.pairwise_iff_getElem.1 h1 i j l1 l2 hij
    rw [List.getElem?_eq_getElem l1] at hx
    rw [List.getElem?_eq_getElem l2] at hy
    injection hx with hx
    injection hy with hy
    subst hx
    subst hy
    rw [hb] at this; cases this
set_option maxRecDepth 100000 in
theorem mj_yes {vs : List Vt} {r : List Int} (h : ∀ (i j : Nat) (x y : Int), i < j → r[i]? = some x → r[j]? = some y → beatsV vs x y = true) : mjOk vs r = true := by
  rw [mjOk_iff, List.pairwise_iff_getElem]
  intro i j hi hj hij
  exact h i j _ _ hij (List.getElem?_eq_getElem hi) (List.getElem?_eq_getElem hj)

/-- The first ranking with the least cost, this cost, and how many have it. -/
def lstT (cost : List Int → Int) (xss : List (List Int)) : Nat → List Int × Int × Nat
  | 0 => ([], 0, 0)
  | k + 1 => if k = 0 ∨ cost (xss.getD k []) < (lstT cost xss k).2.1 then (xss.getD k [], cost (xss.getD k []), 1)
    else if cost (xss.getD k []) = (lstT cost xss k).2.1 then ((lstT cost xss k).1, (lstT cost xss k).2.1, (lstT cost xss k).2.2 + 1) else lstT cost xss k
set_option maxRecDepth 100000 in
theorem lstT_mem {cost : List Int → Int} {xss : List (List Int)} : ∀ k, 1 ≤ k → k ≤ xss.length → (lstT cost xss k).1 ∈ xss ∧ (lstT cost xss k).2.1 = cost (lstT cost xss k).1
  | 0, h, _ => by omega
  | k + 1, _, hk => by
    obtain ⟨r, hr⟩ := at_of_lt (xs := xss) (k := k) (by omega)
    have hg : xss.getD k [] = r := by simp [List.getD, hr]
    have hm := List.mem_of_getElem? hr
    rw [lstT, hg]
    by_cases h0 : k = 0 ∨ cost r < (lstT cost xss k).2.1
    · rw [if_pos h0]; exact ⟨hm, rfl⟩
    · rw [if_neg h0]
      have ih := lstT_mem (cost := cost) (xss := xss) k (by omega) (by omega)
      split
      · exact ⟨ih.1, ih.2⟩
      · exact ih

def prRow (vs : List Vt) (a : Nat) : Nat → List (List Int)
  | 0 => []
  | b + 1 => prRow vs a b ++ if beatsV vs a b then [[(a : Int), (b : Int)]] else []
def prAll (n : Nat) (vs : List Vt) : Nat → List (List Int)
  | 0 => []
  | a + 1 => prAll n vs a ++ prRow vs a n
def margP (vs : List Vt) (x : List Int) : Int := marginV vs (p0 x) (p1 x)
def srtP (n : Nat) (vs : List Vt) : List (List Int) := sortD (margP vs) (prAll n vs n)
noncomputable def lokO (sz : Int) (vs : List Vt) : List (List Int) := if profOk sz vs then lockL (srtP sz.toNat vs) else []
set_option maxRecDepth 100000 in
theorem prRow_len (vs : List Vt) (a : Nat) : ∀ b, (prRow vs a b).length ≤ b
  | 0 => by simp [prRow]
  | b + 1 => by
    have ih := prRow_len vs a b
    rw [prRow, List.length_append]
    split <;> simp <;> omega
set_option maxRecDepth 100000 in
theorem prAll_len (n : Nat) (vs : List Vt) : ∀ a, (prAll n vs a).length ≤ a * n
  | 0 => by simp [prAll]
  | a + 1 => by
    have ih := prAll_len n vs a
    have h := prRow_len vs a n
    rw [prAll, List.length_append, Nat.succ_mul]
    omega
/-- A pair of two candidates. -/
def PairN (n : Nat) (x : List Int) : Prop := ∃ a b : Nat, a < n ∧ b < n ∧ x = [(a : Int), (b : Int)]
set_option maxRecDepth 100000 in
theorem prRow_mem {n a : Nat} {vs : List Vt} (ha : a < n) : ∀ b, b ≤ n → ∀ x ∈ prRow vs a b, PairN n x ∧ beatsV vs (p0 x) (p1 x) = true
  | 0, _, x, h => by simp [prRow] at h
  | b + 1, hb, x, h => by
    rw [prRow] at h
    rcases List.mem_append.1 h with h | h
    · exact prRow_mem ha b (by omega) x h
    · by_cases hq : beatsV vs a b = true
      · rw [if_pos hq] at h
        simp at h
        subst h
        exact ⟨⟨a, b, ha, by omega, rfl⟩, hq⟩
      · rw [if_neg hq] at h; simp at h
set_option maxRecDepth 100000 in
theorem prAll_mem {n : Nat} {vs : List Vt} : ∀ a, a ≤ n → ∀ x ∈ prAll n vs a, PairN n x ∧ beatsV vs (p0 x) (p1 x) = true
  | 0, _, x, h => by simp [prAll] at h
  | a + 1, ha, x, h => by
    rw [prAll] at h
    rcases List.mem_append.1 h with h | h
    · exact prAll_mem a (by omega) x h
    · exact prRow_mem (by omega) n (Nat.le_refl _) x h
set_option maxRecDepth 100000 in
theorem srtP_mem {n : Nat} {vs : List Vt} {x : List Int} (h : x ∈ srtP n vs) : PairN n x ∧ beatsV vs (p0 x) (p1 x) = true := prAll_mem n (Nat.le_refl _) x (sortD_mem.1 h)
set_option maxRecDepth 100000 in
theorem PairN.len {n : Nat} {x : List Int} (h : PairN n x) : x.length = 2 := by obtain ⟨a, b, _, _, rfl⟩ := h; rfl
set_option maxRecDepth 100000 in
theorem srtP_len (n : Nat) (vs : List Vt) : (srtP n vs).length ≤ n * n := by unfold srtP; rw [sortD_len]; exact prAll_len n vs n
set_option maxRecDepth 100000 in
theorem lockL_all (xss : List (List Int)) : lockL xss = lockL (xss.take xss.length) := by rw [List.take_length]
set_option maxRecDepth 100000 in
theorem lok_sub (xss : List (List Int)) : ∀ y ∈ lockL xss, y ∈ xss := fun y hy => lockL_mem xss xss.length (Nat.le_refl _) y (by rwa [List.take_length])
set_option maxRecDepth 100000 in
theorem lokO_bd (sz : Int) (vs : List Vt) : (lokO sz vs).length ≤ 1000 ∧ ∀ x ∈ lokO sz vs, x.length ≤ 100 := by
  unfold lokO
  cases h0 : profOk sz vs
  · simp
  · obtain ⟨n, rfl, n1, n2⟩ := prof_nat h0
    simp only [if_true, Int.toNat_natCast]
    have h1 := lockL_len (srtP n vs) _ (Nat.le_refl _)
    rw [List.take_length] at h1
    have h2 := srtP_len n vs
    have h3 : n * n ≤ 5 * 5 := Nat.mul_le_mul n2 n2
    exact ⟨by omega, fun x hx => by have := (srtP_mem (lok_sub _ x hx)).1.len; omega⟩
def sumTo (f : Nat → Nat) : Nat → Nat
  | 0 => 0
  | k + 1 => sumTo f k + f k
def bt1 (vs : List Vt) (i j : Nat) : Nat := if beatsV vs i j then 1 else 0
set_option maxRecDepth 100000 in
theorem prRow_sum (vs : List Vt) (a : Nat) : ∀ b, (prRow vs a b).length = sumTo (bt1 vs a) b
  | 0 => rfl
  | b + 1 => by
    rw [prRow, List.length_append, prRow_sum vs a b, sumTo]
    unfold bt1
    split <;> rfl
set_option maxRecDepth 100000 in
theorem prAll_sum (n : Nat) (vs : List Vt) : ∀ a, (prAll n vs a).length = sumTo (fun i => sumTo (bt1 vs i) n) a
  | 0 => rfl
  | a + 1 => by rw [prAll, List.length_append, prAll_sum n vs a, sumTo, prRow_sum]
set_option maxRecDepth 100000 in
theorem bt1_two (vs : List Vt) (i j : Nat) : bt1 vs i j + bt1 vs j i ≤ 1 := by
  unfold bt1
  by_cases h : beatsV vs i j = true
  · rw [if_pos h, beatsV_anti h]; simp
  · rw [if_neg h]; split <;> omega
set_option maxRecDepth 100000 in
/-- There are at most ten of them. -/
theorem prAll_ten {n : Nat} (n2 : n ≤ 5) (vs : List Vt) : (prAll n vs n).length ≤ 10 := by
  rw [prAll_sum]
  have h := bt1_two vs
  have a0 := h 0 0
  have a1 := h 0 1
  have a2 := h 0 2
  have a3 := h 0 3
  have a4 := h 0 4
  have b1 := h 1 1
  have b2 := h 1 2
  have b3 := h 1 3
  have b4 := h 1 4
  have c2 := h 2 2
  have c3 := h 2 3
  have c4 := h 2 4
  have d3 := h 3 3
  have d4 := h 3 4
  have e4 := h 4 4
  rcases (show n = 0 ∨ n = 1 ∨ n = 2 ∨ n = 3 ∨ n = 4 ∨ n = 5 by omega) with rfl | rfl | rfl | rfl | rfl | rfl <;> simp only [sumTo] <;> omega
set_option maxRecDepth 100000 in
/-- Sorting entries is sorting what they hold. -/
theorem insD_map {α β : Type} (g : α → β) (f : β → Int) (xs : List α) (a : α) : (insD (fun x => f (g x)) xs a).map g = insD f (xs.map g) (g a) := by
  unfold insD
  rw [List.map_append, List.map_cons, List.takeWhile_map, List.dropWhile_map]
  rfl
set_option maxRecDepth 100000 in
theorem sortD_map {α β : Type} (g : α → β) (f : β → Int) (xs : List α) : (sortD (fun x => f (g x)) xs).map g = sortD f (xs.map g) := by
  have key : ∀ (xs acc : List α), (xs.foldl (insD (fun x => f (g x))) acc).map g = (xs.map g).foldl (insD f) (acc.map g) := by
    intro xs
    induction xs with
    | nil => intro acc; rfl
    | cons x xs ih => intro acc; rw [List.foldl_cons, ih, insD_map, List.map_cons, List.foldl_cons]
  exact key xs []

/-- The next ones that a search comes to: one more pair. -/
def seenS (at0 : Int) (seen : List Int) (x : List Int) : List Int := if p0 x = at0 ∧ hasI seen (p1 x) = false then seen ++ [p1 x] else seen
def seenT (at0 : Int) (seen : List Int) (kept : List (List Int)) : List Int := kept.foldl (seenS at0) seen
set_option maxRecDepth 100000 in
theorem seenT_at {at0 : Int} {seen : List Int} {kept : List (List Int)} {k : Nat} {x : List Int} (h : kept[k]? = some x) : seenT at0 seen (kept.take (k + 1)) = seenS at0 (seenT at0 seen (kept.take k)) x := by
  rw [take_at h]; simp [seenT]
/-- What holds of the search: no one twice, all can be reached, and those of place < k are done. -/
structure SeenOk (n : Nat) (kept : List (List Int)) (a b : Int) (seen : List Int) (k : Nat) : Prop where
  nd : seen.Nodup
  inn : ∀ y ∈ seen, ∃ i : Nat, i < n ∧ y = i
  reach : ∀ y ∈ seen, ReachL kept a y
  start : a ∈ seen
  done : ∀ (j : Nat) (y : Int), j < k → seen[j]? = some y → y ≠ b ∧ ∀ x ∈ kept, p0 x = y → p1 x ∈ seen
set_option maxRecDepth 100000 in
theorem SeenOk.len {n : Nat} {kept : List (List Int)} {a b : Int} {seen : List Int} {k : Nat} (h : SeenOk n kept a b seen k) : seen.length ≤ n := by
  have h2 := List.Nodup.length_le_of_subset (l₂ := upL n (fun _ => true)) h.nd (fun y hy => by
    obtain ⟨i, hi, rfl⟩ := h.inn y hy
    exact upL_mem.2 ⟨i, hi, rfl, rfl⟩)
  rwa [upL_true_len] at h2
set_option maxRecDepth 100000 in
theorem SeenOk.begin {n : Nat} {kept : List (List Int)} {a b : Int} (ha : ∃ i : Nat, i < n ∧ a = i) : SeenOk n kept a b [a] 0 :=
  ⟨by simp, fun y hy => by simp at hy; subst hy; exact ha, fun y hy => by simp at hy; subst hy; exact ReachL.refl _, by simp, fun j y hj => by omega⟩
set_option maxRecDepth 100000 in
theorem SeenOk.yes {n : Nat} {kept : List (List Int)} {a b : Int} {seen : List Int} {k : Nat} (h : SeenOk n kept a b seen k) (hk : seen[k]? = some b) : wayB kept a b = true := wayB_iff.2 (h.reach b (List.mem_of_getElem? hk))
set_option maxRecDepth 100000 in
theorem SeenOk.no {n : Nat} {kept : List (List Int)} {a b : Int} {seen : List Int} {k : Nat} (h : SeenOk n kept a b seen k) (hk : seen.length ≤ k) : wayB kept a b = false := by
  rw [wayB_no]
  intro hr
  have hin : b ∈ seen := reach_in (seen := seen) (fun x hx hp => by
    obtain ⟨j, hj⟩ := List.mem_iff_getElem?.1 hp
    exact (h.done j _ (by have := lt_of_at hj; omega) hj).2 x hx rfl) hr h.start
  obtain ⟨j, hj⟩ := List.mem_iff_getElem?.1 hin
  exact (h.done j b (by have := lt_of_at hj; omega) hj).1 rfl
/-- While the search looks at place k: all pairs before j from there are seen. -/
structure SeenIn (n : Nat) (kept : List (List Int)) (a b at0 : Int) (seen : List Int) (k j : Nat) : Prop where
  ok : SeenOk n kept a b seen k
  at_ : seen[k]? = some at0
  part : ∀ x ∈ kept.take j, p0 x = at0 → p1 x ∈ seen
set_option maxRecDepth 100000 in
theorem SeenIn.add {n : Nat} {kept : List (List Int)} {a b at0 : Int} {seen : List Int} {k j : Nat} (h : SeenIn n kept a b at0 seen k j) {x : List Int} (hx : kept[j]? = some x) (hp : ∃ i : Nat, i < n ∧ p1 x = i) (h0 : p0 x = at0) (h1 : hasI seen (p1 x) = false) :
    SeenIn n kept a b at0 (seen ++ [p1 x]) k (j + 1) := by
  have hno : p1 x ∉ seen := fun hm => by rw [hasI_iff.2 hm] at h1; cases h1
  have hxm := List.mem_of_getElem? hx
  have hr : ReachL kept a (p1 x) := (h.ok.reach at0 (List.mem_of_getElem? h.at_)).snoc hxm h0
  refine ⟨⟨?_, fun y hy => ?_, fun y hy => ?_, List.mem_append_left _ h.ok.start, fun i y hi hy => ?_⟩, by rw [List.getElem?_append_left (lt_of_at h.at_)]; exact h.at_, fun y hy hy0 => ?_⟩
  · rw [List.nodup_append]
    exact ⟨h.ok.nd, by simp, fun y hy z hz => by simp at hz; subst hz; exact fun e => hno (e ▸ hy)⟩
  · rcases List.mem_append.1 hy with hy | hy
    · exact h.ok.inn y hy
    · simp at hy; subst hy; exact hp
  · rcases List.mem_append.1 hy with hy | hy
    · exact h.ok.reach y hy
    · simp at hy; subst hy; exact hr
  · rw [List.getElem?_append_left (by have := lt_of_at h.at_; omega)] at hy
    have := h.ok.done i y hi hy
    exact ⟨this.1, fun z hz hz0 => List.mem_append_left _ (this.2 z hz hz0)⟩
  · rw [take_at hx] at hy
    rcases List.mem_append.1 hy with hy | hy
    · exact List.mem_append_left _ (h.part y hy hy0)
    · simp at hy; subst hy; simp
set_option maxRecDepth 100000 in
theorem SeenIn.pass {n : Nat} {kept : List (List Int)} {a b at0 : Int} {seen : List Int} {k j : Nat} (h : SeenIn n kept a b at0 seen k j) {x : List Int} (hx : kept[j]? = some x) (h1 : p0 x ≠ at0 ∨ hasI seen (p1 x) = true) :
    SeenIn n kept a b at0 seen k (j + 1) := by
  refine ⟨h.ok, h.at_, fun y hy hy0 => ?_⟩
  rw [take_at hx] at hy
  rcases List.mem_append.1 hy with hy | hy
  · exact h.part y hy hy0
  · simp at hy; subst hy
    rcases h1 with h1 | h1
    · exact absurd hy0 h1
    · exact hasI_iff.1 h1
set_option maxRecDepth 100000 in
theorem SeenIn.next {n : Nat} {kept : List (List Int)} {a b at0 : Int} {seen : List Int} {k j : Nat} (h : SeenIn n kept a b at0 seen k j) (hj : kept.length ≤ j) (hne : at0 ≠ b) : SeenOk n kept a b seen (k + 1) := by
  refine ⟨h.ok.nd, h.ok.inn, h.ok.reach, h.ok.start, fun i y hi hy => ?_⟩
  by_cases e : i = k
  · subst e
    have := h.at_
    rw [hy] at this
    injection this with this
    subst this
    exact ⟨hne, fun x hx h0 => h.part x (by rw [List.take_of_length_le hj]; exact hx) h0⟩
  · exact h.ok.done i y (by omega) hy

noncomputable def prkO (sz : Int) (vs : List Vt) : List Int := if profOk sz vs then prL (lokO sz vs) sz.toNat sz.toNat else []
set_option maxRecDepth 100000 in
theorem prkO_len (sz : Int) (vs : List Vt) : (prkO sz vs).length ≤ 5 := by
  unfold prkO
  cases h0 : profOk sz vs
  · simp
  · obtain ⟨n, rfl, n1, n2⟩ := prof_nat h0
    simp only [if_true, Int.toNat_natCast, prL_len]
    exact n2

/-- Pairs that a list orders otherwise than xs. -/
def swapN (xs r : List Int) : Nat := bkI (fun y x => prefB r y x) xs
def kemV (vs : List Vt) (r : List Int) : Int := (vs.map (fun x => x.2 * (swapN x.1 r : Int))).sum
set_option maxRecDepth 100000 in
theorem kemV_at {vs : List Vt} {r : List Int} {k : Nat} {x : Vt} (hx : vs[k]? = some x) : kemV (vs.take (k + 1)) r = kemV (vs.take k) r + x.2 * (swapN x.1 r : Int) := by
  rw [take_at hx]; simp [kemV]
set_option maxRecDepth 100000 in
theorem swapN_bd {xs r : List Int} (h : xs.length ≤ 5) : swapN xs r ≤ 25 := by
  have h1 := bkI_bd (fun y x => prefB r y x) xs
  have h2 : xs.length * xs.length ≤ 5 * 5 := Nat.mul_le_mul h h
  unfold swapN
  omega
set_option maxRecDepth 100000 in
theorem kemV_bd {sz : Int} {vs : List Vt} {r : List Int} (hS : SmallV sz vs) : ∀ k, k ≤ vs.length → 0 ≤ kemV (vs.take k) r ∧ kemV (vs.take k) r ≤ 25000 * k
  | 0, _ => by simp [kemV]
  | k + 1, hk => by
    obtain ⟨x, hx⟩ := at_of_lt (xs := vs) (k := k) (by omega)
    have ih := kemV_bd (r := r) hS k (by omega)
    have h2 := hS.2 x (List.mem_of_getElem? hx)
    have h3 := swapN_bd (r := r) (rk_len h2.1).2
    rw [kemV_at hx]
    have h4 : 0 ≤ x.2 * (swapN x.1 r : Int) := Int.mul_nonneg (by omega) (by omega)
    have h5 : x.2 * (swapN x.1 r : Int) ≤ 1000 * 25 := Int.mul_le_mul (by omega) (by omega) (by omega) (by omega)
    omega
set_option maxRecDepth 100000 in
theorem kemV_bd' {sz : Int} {vs : List Vt} {r : List Int} (hS : SmallV sz vs) : 0 ≤ kemV vs r ∧ kemV vs r ≤ 600000 := by
  have h := kemV_bd (r := r) hS vs.length (Nat.le_refl _)
  rw [List.take_length] at h
  have := hS.1
  omega
/-- Pairs of a ranking of which the later one beats the earlier one. -/
def slaN (vs : List Vt) (r : List Int) : Int := (bkI (fun y x => beatsV vs y x) r : Nat)
set_option maxRecDepth 100000 in
theorem slaN_bd {vs : List Vt} {r : List Int} (h : r.length ≤ 5) : 0 ≤ slaN vs r ∧ slaN vs r ≤ 25 := by
  have h1 := bkI_bd (fun y x => beatsV vs y x) r
  have h2 : r.length * r.length ≤ 5 * 5 := Nat.mul_le_mul h h
  unfold slaN
  omega
/-- The first of all rankings with the least cost, this cost, and how many have it. -/
def lstR (cost : List Int → Int) (n : Nat) : List Int × Int × Nat := lstT cost (allO n) (allO n).length
def lstO (cost : List Int → Int) (sz : Int) (vs : List Vt) : List Int × Int × Nat := if profOk sz vs then lstR cost sz.toNat else ([], 0, 0)
set_option maxRecDepth 100000 in
theorem allO_pos {n : Nat} (n1 : 1 ≤ n) (n2 : n ≤ 5) : 1 ≤ (allO n).length := by
  obtain ⟨r, hr⟩ := allO_ne n1 n2
  obtain ⟨k, hk⟩ := List.mem_iff_getElem?.1 hr
  have := lt_of_at hk
  omega
set_option maxRecDepth 100000 in
theorem lstR_mem {cost : List Int → Int} {n : Nat} (n1 : 1 ≤ n) (n2 : n ≤ 5) : (lstR cost n).1 ∈ allO n ∧ (lstR cost n).2.1 = cost (lstR cost n).1 := lstT_mem _ (allO_pos n1 n2) (Nat.le_refl _)
set_option maxRecDepth 100000 in
theorem lstT_cnt {cost : List Int → Int} {xss : List (List Int)} : ∀ k, (lstT cost xss k).2.2 ≤ k
  | 0 => by simp [lstT]
  | k + 1 => by
    have ih := lstT_cnt (cost := cost) (xss := xss) k
    rw [lstT]
    split
    · simp
    · split
      · simp; omega
      · omega
set_option maxRecDepth 100000 in
theorem lstT_new {cost : List Int → Int} {xss : List (List Int)} {k : Nat} {r : List Int} (hr : xss[k]? = some r) (h : k = 0 ∨ cost r < (lstT cost xss k).2.1) : lstT cost xss (k + 1) = (r, cost r, 1) := by
  have hg : xss.getD k [] = r := by simp [List.getD, hr]
  rw [lstT, hg, if_pos h]
set_option maxRecDepth 100000 in
theorem lstT_tie {cost : List Int → Int} {xss : List (List Int)} {k : Nat} {r : List Int} (hr : xss[k]? = some r) (hk : k ≠ 0) (h : cost r = (lstT cost xss k).2.1) : lstT cost xss (k + 1) = ((lstT cost xss k).1, (lstT cost xss k).2.1, (lstT cost xss k).2.2 + 1) := by
  have hg : xss.getD k [] = r := by simp [List.getD, hr]
  rw [lstT, hg, if_neg (by omega), if_pos h]
set_option maxRecDepth 100000 in
theorem lstT_old {cost : List Int → Int} {xss : List (List Int)} {k : Nat} {r : List Int} (hr : xss[k]? = some r) (hk : k ≠ 0) (h : (lstT cost xss k).2.1 < cost r) : lstT cost xss (k + 1) = lstT cost xss k := by
  have hg : xss.getD k [] = r := by simp [List.getD, hr]
  rw [lstT, hg, if_neg (by omega), if_neg (by omega)]
set_option maxRecDepth 100000 in
theorem lstO_len (cost : List Int → Int) (sz : Int) (vs : List Vt) : (lstO cost sz vs).1.length ≤ 5 := by
  unfold lstO
  cases h0 : profOk sz vs
  · simp
  · obtain ⟨n, rfl, n1, n2⟩ := prof_nat h0
    simp only [if_true, Int.toNat_natCast]
    exact (rk_len ((allO_mem n1 n2).1 (lstR_mem n1 n2).1)).2
def kemO (sz : Int) (vs : List Vt) : List Int := (lstO (kemV vs) sz vs).1
def slaO (sz : Int) (vs : List Vt) : List Int := (lstO (slaN vs) sz vs).1
def slaW (sz : Int) (vs : List Vt) : Int := if profOk sz vs then (lstO (slaN vs) sz vs).2.1 else -1

end Go.Proofs.YtfmeklgdaabooaaGreatDoor
