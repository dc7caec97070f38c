/- Rankings: all of them stand in the list of all rankings; the one in which each beats all behind it (plain law). The winners by paths: there is one (plain law). Maximin scores. -/
import Derived.Test.YthiojkpoeejkaaaCp13
import Derived.Test.YthiojkpoeejkaaaCp6
import Derived.Test.YthiojkpoeejkaaaCp7
namespace Go.Proofs.Ythiojkpoeejkaaa
open Go.RowKit

set_option maxRecDepth 100000 in
theorem leftL_snoc {n : Nat} {out : List Int} {x y : Int} : y ∈ leftL n (out ++ [x]) ↔ y ∈ leftL n out ∧ y ≠ x := by
  rw [leftL_mem, leftL_mem]
  constructor
  · rintro ⟨i, hi, hn, rfl⟩
    rw [List.mem_append] at hn
    exact ⟨⟨i, hi, fun h => hn (.inl h), rfl⟩, fun h => hn (.inr (by simp [h]))⟩
  · rintro ⟨⟨i, hi, hn, rfl⟩, hne⟩
    refine ⟨i, hi, fun h => ?_, rfl⟩
    rcases List.mem_append.1 h with h | h
    · exact hn h
    · simp at h; exact hne h
set_option maxRecDepth 100000 in
theorem leftL_drop {n : Nat} {out : List Int} {x : Int} (h : x ∈ leftL n out) : (leftL n (out ++ [x])).length + 1 = (leftL n out).length := by
  obtain ⟨i, hi⟩ := List.mem_iff_getElem?.1 h
  have hlt := lt_of_at hi
  rw [← leftL_erase hi, List.length_eraseIdx, if_pos hlt]
  omega
set_option maxRecDepth 100000 in
theorem allS_mem (n : Nat) : ∀ (k : Nat) (pre : List Int), (leftL n pre).length = k → ∀ r : List Int, r ∈ allS n k pre ↔ ∃ s : List Int, r = pre ++ s ∧ s.Nodup ∧ s.length = k ∧ ∀ x ∈ s, x ∈ leftL n pre
  | 0, pre, _, r => by
    simp only [allS, List.mem_singleton]
    constructor
    · rintro rfl; exact ⟨[], by simp, List.nodup_nil, rfl, fun x h => by simp at h⟩
    · rintro ⟨s, rfl, _, hl, _⟩
      have : s = [] := List.length_eq_zero_iff.1 hl
      subst this; simp
  | k + 1, pre, hl, r => by
    rw [allS, List.mem_flatMap]
    constructor
    · rintro ⟨x, hx, hr⟩
      have hd := leftL_drop hx
      obtain ⟨s, rfl, hs1, hs2, hs3⟩ := (allS_mem n k (pre ++ [x]) (by omega) r).1 hr
      refine ⟨x :: s, by simp, List.nodup_cons.2 ⟨fun h => (leftL_snoc.1 (hs3 x h)).2 rfl, hs1⟩, by simp [hs2], fun y hy => ?_⟩
      rcases List.mem_cons.1 hy with rfl | hy
      · exact hx
      · exact (leftL_snoc.1 (hs3 y hy)).1
    · rintro ⟨s, rfl, hs1, hs2, hs3⟩
      cases s with
      | nil => simp at hs2
      | cons x s =>
        have hx := hs3 x (by simp)
        have hd := leftL_drop hx
        rw [List.nodup_cons] at hs1
        refine ⟨x, hx, (allS_mem n k (pre ++ [x]) (by omega) _).2 ⟨s, by simp, hs1.2, by simpa using hs2, fun y hy => leftL_snoc.2 ⟨hs3 y (by simp [hy]), ?_⟩⟩⟩
        rintro rfl; exact hs1.1 hy
set_option maxRecDepth 100000 in
theorem allO_mem {n : Nat} (n1 : 1 ≤ n) (n2 : n ≤ 5) {r : List Int} : r ∈ allO n ↔ rkOk n r = true := by
  unfold allO
  rw [allS_mem n n [] (by rw [leftL_nil, upL_true_len])]
  have hin : inR (n : Int) 1 5 = true := inR_iff.2 (by omega)
  constructor
  · rintro ⟨s, rfl, h1, h2, h3⟩
    simp only [rkOk, hin, Bool.true_and, Bool.and_eq_true, decide_eq_true_eq, List.all_eq_true]
    refine ⟨by omega, fun x hx => ?_, h1⟩
    obtain ⟨i, hi, _, rfl⟩ := leftL_mem.1 (h3 x hx)
    rw [inR_iff]; omega
  · intro h
    have h1 := rk_nodup h
    have h2 := (rk_len h).1
    refine ⟨r, by simp, h1, by omega, fun x hx => ?_⟩
    have h3 := rk_mem h hx
    exact leftL_mem.2 ⟨x.toNat, by omega, by simp, by omega⟩
set_option maxRecDepth 100000 in
theorem allO_ne {n : Nat} (n1 : 1 ≤ n) (n2 : n ≤ 5) : ∃ r, r ∈ allO n := by
  refine ⟨upL n (fun _ => true), (allO_mem n1 n2).2 ?_⟩
  have hin : inR (n : Int) 1 5 = true := inR_iff.2 (by omega)
  simp only [rkOk, hin, Bool.true_and, Bool.and_eq_true, decide_eq_true_eq, List.all_eq_true]
  refine ⟨by rw [upL_true_len], fun x hx => ?_, upL_nodup _ _⟩
  obtain ⟨i, hi, _, rfl⟩ := upL_mem.1 hx
  rw [inR_iff]; omega
set_option maxRecDepth 100000 in
/-- A ranking holds the candidates, in its order. -/
theorem rk_perm {n : Nat} {r : List Int} (h : rkOk n r = true) : r.Perm (upL n (fun _ => true)) := by
  rw [List.perm_ext_iff_of_nodup (rk_nodup h) (upL_nodup _ _)]
  intro x
  rw [upL_mem]
  constructor
  · intro hx
    have := rk_mem h hx
    exact ⟨x.toNat, by omega, rfl, by omega⟩
  · rintro ⟨i, hi, _, rfl⟩
    exact rk_all h hi
set_option maxRecDepth 100000 in
theorem cntN_perm {n : Nat} {r : List Int} (h : rkOk n r = true) (p : Int → Bool) : cntN n (fun j => p j) = r.countP p := by
  rw [(rk_perm h).countP_eq]
  unfold cntN upL
  rw [List.filter_eq_self.2 (fun _ _ => rfl), List.countP_map]
  rfl

/-- Each beats all that stand behind it. -/
def mjQ (vs : List Vt) (y x : Int) : Bool := !beatsV vs x y
def mjOk (vs : List Vt) (r : List Int) : Bool := decide (bkI (mjQ vs) r = 0)
set_option maxRecDepth 100000 in
theorem mjOk_iff {vs : List Vt} {r : List Int} : mjOk vs r = true ↔ r.Pairwise (fun x y => beatsV vs x y = true) := by
  unfold mjOk
  rw [decide_eq_true_iff, bkI_zero]
  have : (fun x y => mjQ vs y x = false) = (fun x y => beatsV vs x y = true) := by
    funext x y; simp [mjQ]
  rw [this]
def mjO (n : Nat) (vs : List Vt) : Option (List Int) := (allO n).find? (mjOk vs)

set_option maxRecDepth 100000 in
theorem beatsV_anti {vs : List Vt} {x y : Int} (h : beatsV vs x y = true) : beatsV vs y x = false := by
  unfold beatsV at *
  simp only [decide_eq_true_eq, decide_eq_false_iff_not] at *
  omega
set_option maxRecDepth 100000 in
theorem beatsV_self (vs : List Vt) (x : Int) : beatsV vs x x = false := by simp [beatsV]
set_option maxRecDepth 100000 in
/-- In such a ranking the one at place i beats all but i + 1. -/
theorem mj_count {vs : List Vt} : ∀ {r : List Int} {i : Nat} {x : Int}, r.Pairwise (fun x y => beatsV vs x y = true) → r[i]? = some x → r.countP (fun y => beatsV vs x y) + (i + 1) = r.length
  | [], i, x, _, h => by simp at h
  | z :: zs, 0, x, hp, h => by
    simp at h
    subst h
    rw [List.pairwise_cons] at hp
    have : zs.countP (fun y => beatsV vs z y) = zs.length := List.countP_eq_length.2 (fun y hy => hp.1 y hy)
    rw [List.countP_cons, beatsV_self, this]
    simp
  | z :: zs, i + 1, x, hp, h => by
    rw [List.pairwise_cons] at hp
    simp only [List.getElem?_cons_succ] at h
    have ih := mj_count hp.2 h
    have hz := beatsV_anti (hp.1 x (List.mem_of_getElem? h))
    rw [List.countP_cons, hz, List.length_cons]
    simp; omega
set_option maxRecDepth 100000 in
theorem ups_at {n : Nat} {vs : List Vt} {r : List Int} (h : rkOk n r = true) (hp : mjOk vs r = true) {i : Nat} {x : Int} (hx : r[i]? = some x) : ∃ a : Nat, x = a ∧ a < n ∧ (upsL n vs)[a]? = some (((n - 1 - i : Nat)) : Int) := by
  have hm := rk_mem h (List.mem_of_getElem? hx)
  have hl := (rk_len h).1
  have hi := lt_of_at hx
  refine ⟨x.toNat, by omega, by omega, ?_⟩
  have hc := mj_count (mjOk_iff.1 hp) hx
  have hcn := cntN_perm h (fun y => beatsV vs x y)
  have e : (bt vs x.toNat) = (fun j : Nat => beatsV vs x (j : Int)) := by
    funext j
    unfold bt
    rw [show ((x.toNat : Nat) : Int) = x by omega]
  unfold upsL
  rw [rowL_at (show x.toNat < n by omega), e, hcn]
  congr 1
  omega
/-- The spec's candidate for that ranking. -/
def mjS (n : Nat) (vs : List Vt) : List Int := rowL n (fun i => placeI (upsL n vs) ((n : Int) - 1 - i))
set_option maxRecDepth 100000 in
theorem mjS_eq {n : Nat} {vs : List Vt} {r : List Int} (h : rkOk n r = true) (hp : mjOk vs r = true) : mjS n vs = r := by
  have hl := (rk_len h).1
  refine List.ext_getElem? (fun i => ?_)
  by_cases hi : i < n
  · obtain ⟨x, hx⟩ := at_of_lt (xs := r) (k := i) (by omega)
    rw [hx]
    unfold mjS
    rw [rowL_at hi]
    obtain ⟨a, rfl, ha, hat⟩ := ups_at h hp hx
    congr 1
    have e : ((n : Int) - 1 - (i : Int)) = ((n - 1 - i : Nat) : Int) := by omega
    unfold placeI
    rw [e]
    refine findI_some hat ?_ (by simp)
    rw [List.all_eq_true]
    intro y hy
    obtain ⟨b, hb⟩ := List.mem_iff_getElem?.1 hy
    have hba : b < a := by have := lt_of_at hb; rw [List.length_take] at this; omega
    rw [List.getElem?_take_of_lt hba] at hb
    obtain ⟨j, hj, _, hjb, _⟩ := place_at h (a := b) (by omega)
    obtain ⟨b', hb', _, hbt⟩ := ups_at h hp hjb
    have : b' = b := by omega
    subst this
    rw [hb] at hbt
    injection hbt with hbt
    have hne : j ≠ i := fun e => by subst e; rw [hx] at hjb; injection hjb with hjb; omega
    rw [hbt]
    have : (((n - 1 - i : Nat) : Int) == ((n - 1 - j : Nat) : Int)) = false := by
      rw [beq_eq_false_iff_ne]; omega
    rw [this]; rfl
  · have h1 : (mjS n vs)[i]? = none := List.getElem?_eq_none (by unfold mjS; rw [rowL_len]; omega)
    have h2 : r[i]? = none := List.getElem?_eq_none (by omega)
    rw [h1, h2]
set_option maxRecDepth 100000 in
theorem mjS_ok {n : Nat} {vs : List Vt} (n1 : 1 ≤ n) (n2 : n ≤ 5) (h : ∀ i : Nat, i < n → 0 ≤ placeI (upsL n vs) ((n : Int) - 1 - i)) : rkOk n (mjS n vs) = true := by
  have hin : inR (n : Int) 1 5 = true := inR_iff.2 (by omega)
  have hpl : ∀ v : Int, 0 ≤ placeI (upsL n vs) v → (upsL n vs)[(placeI (upsL n vs) v).toNat]? = some v ∧ placeI (upsL n vs) v < n := by
    intro v hv
    unfold placeI findI at hv ⊢
    split at hv
    · rename_i k hk
      rw [List.findIdx?_eq_some_iff_getElem] at hk
      obtain ⟨h1, h2, _⟩ := hk
      have h3 : v = (upsL n vs)[k] := by simpa using h2
      have h4 : (upsL n vs).length = n := rowL_len _ _
      refine ⟨?_, by omega⟩
      rw [Int.toNat_natCast, List.getElem?_eq_getElem h1, ← h3]
    · omega
  simp only [rkOk, hin, Bool.true_and, Bool.and_eq_true, decide_eq_true_eq, List.all_eq_true]
  refine ⟨by unfold mjS; rw [rowL_len], fun x hx => ?_, ?_⟩
  · obtain ⟨i, hi⟩ := List.mem_iff_getElem?.1 hx
    obtain ⟨hj, rfl⟩ := rowL_val hi
    have h1 := h i hj
    have h2 := (hpl _ h1).2
    rw [inR_iff]; omega
  · unfold mjS rowL
    refine List.Pairwise.map _ (fun a b hab => ?_) (List.pairwise_lt_range.imp_of_mem (fun ha hb hlt => (⟨hlt, List.mem_range.1 ha, List.mem_range.1 hb⟩ : _ ∧ _ ∧ _)))
    obtain ⟨hlt, ha, hb⟩ := hab
    intro e
    have h1 := (hpl _ (h a ha)).1
    have h2 := (hpl _ (h b hb)).1
    rw [e, h2] at h1
    injection h1 with h1
    omega
set_option maxRecDepth 100000 in
/-- The program's answer, as the spec finds it. -/
theorem mj_eq {n : Nat} {vs : List Vt} (n1 : 1 ≤ n) (n2 : n ≤ 5) : mjO n vs = if (∀ i : Nat, i < n → 0 ≤ placeI (upsL n vs) ((n : Int) - 1 - i)) ∧ mjOk vs (mjS n vs) = true then some (mjS n vs) else none := by
  unfold mjO
  cases hf : (allO n).find? (mjOk vs) with
  | none =>
    rw [List.find?_eq_none] at hf
    rw [if_neg]
    rintro ⟨h1, h2⟩
    exact hf _ ((allO_mem n1 n2).2 (mjS_ok n1 n2 h1)) h2
  | some r =>
    have hr := List.find?_some hf
    have hm := (allO_mem n1 n2).1 (List.mem_of_find?_eq_some hf)
    have he := mjS_eq hm hr
    have hlen := (rk_len hm).1
    have h1 : ∀ i : Nat, i < n → 0 ≤ placeI (upsL n vs) ((n : Int) - 1 - i) := fun i hi => by
      obtain ⟨x, hx⟩ := at_of_lt (xs := r) (k := i) (by omega)
      have := rk_mem hm (List.mem_of_getElem? hx)
      rw [← he] at hx
      unfold mjS at hx
      rw [rowL_at hi] at hx
      injection hx with hx
      omega
    rw [if_pos ⟨h1, by rw [he]; exact hr⟩, he]
set_option maxRecDepth 100000 in
/-- The spec's test of the pairs. -/
theorem mj_not {vs : List Vt} {r : List Int} {i j : Nat} {x y : Int} (hij : i < j) (hx : r[i]? = some x) (hy : r[j]? = some y) (hb : beatsV vs x y = false) : mjOk vs r = false := by
  cases h : mjOk vs r
  · rfl
  · have h1 := mjOk_iff.1 h
    have l1 := lt_of_at hx
    have l2 := lt_of_at hy
    have := List.pairwise_iff_getElem.1 h1 i j l1 l2 hij
    rw [List.getElem?_eq_getElem l1] at hx
    rw [List.getElem?_eq_getElem l2] at hy
    injection hx with hx
    injection hy with hy
    subst hx
    subst hy
    rw [hb] at this; cases this
set_option maxRecDepth 100000 in
theorem mj_yes {vs : List Vt} {r : List Int} (h : ∀ (i j : Nat) (x y : Int), i < j → r[i]? = some x → r[j]? = some y → beatsV vs x y = true) : mjOk vs r = true := by
  rw [mjOk_iff, List.pairwise_iff_getElem]
  intro i j hi hj hij
  exact h i j _ _ hij (List.getElem?_eq_getElem hi) (List.getElem?_eq_getElem hj)

/-- The first ranking with the least cost, this cost, and how many have it. -/
def lstT (cost : List Int → Int) (xss : List (List Int)) : Nat → List Int × Int × Nat
  | 0 => ([], 0, 0)
  | k + 1 => if k = 0 ∨ cost (xss.getD k []) < (lstT cost xss k).2.1 then (xss.getD k [], cost (xss.getD k []), 1)
    else if cost (xss.getD k []) = (lstT cost xss k).2.1 then ((lstT cost xss k).1, (lstT cost xss k).2.1, (lstT cost xss k).2.2 + 1) else lstT cost xss k
set_option maxRecDepth 100000 in
theorem lstT_mem {cost : List Int → Int} {xss : List (List Int)} : ∀ k, 1 ≤ k → k ≤ xss.length → (lstT cost xss k).1 ∈ xss ∧ (lstT cost xss k).2.1 = cost (lstT cost xss k).1
  | 0, h, _ => by omega
  | k + 1, _, hk => by
    obtain ⟨r, hr⟩ := at_of_lt (xs := xss) (k := k) (by omega)
    have hg : xss.getD k [] = r := by simp [List.getD, hr]
    have hm := List.mem_of_getElem? hr
    rw [lstT, hg]
    by_cases h0 : k = 0 ∨ cost r < (lstT cost xss k).2.1
    · rw [if_pos h0]; exact ⟨hm, rfl⟩
    · rw [if_neg h0]
      have ih := lstT_mem (cost := cost) (xss := xss) k (by omega) (by omega)
      split
      · exact ⟨ih.1, ih.2⟩
      · exact ih

set_option maxRecDepth 100000 in
theorem allN_at {n : Nat} {p : Nat → Bool} (h : allN n p = true) {k : Nat} (hk : k < n) : p k = true := by
  unfold allN at h
  rw [List.all_eq_true] at h
  exact h k (List.mem_range.2 hk)
/-- Strengths that one may improve: no one of oneself, none negative. -/
structure FwOk (M : Nat → Nat → Int) : Prop where
  diag : ∀ x, M x x = 0
  pos : ∀ x y, 0 ≤ M x y
set_option maxRecDepth 100000 in
theorem fwB_at {M : Nat → Nat → Int} (h : FwOk M) (k a : Nat) : ∀ m x y, fwB M k a m x y = if x = a ∧ y < m ∧ x ≠ y then max (M x y) (min (M x k) (M k y)) else M x y
  | 0, x, y => by simp [fwB]
  | m + 1, x, y => by
    have d1 := h.diag k
    have p1 := h.pos a k
    have p2 := h.pos k m
    have e1 := fwB_at h k a m a m
    have e2 := fwB_at h k a m a k
    have e3 := fwB_at h k a m k m
    have e4 := fwB_at h k a m x y
    rw [if_neg (by omega)] at e1
    have e2' : fwB M k a m a k = M a k := by
      rw [e2]; split
      · rw [d1]; omega
      · rfl
    have e3' : fwB M k a m k m = M k m := by rw [e3, if_neg (by omega)]
    rw [fwB]; unfold fw1
    rw [e1, e2', e3', e4]
    by_cases hx : x = a
    · subst hx
      by_cases hy : y = m
      · subst hy
        by_cases hne : x = y
        · subst hne
          rw [if_neg (by omega), if_neg (by omega), if_neg (by omega)]
        · rw [if_pos ⟨rfl, rfl, hne⟩, if_pos (by omega)]
      · rw [if_neg (by omega)]
        by_cases hc : y < m ∧ x ≠ y
        · rw [if_pos (by omega), if_pos (by omega)]
        · rw [if_neg (by omega), if_neg (by omega)]
    · rw [if_neg (by omega), if_neg (by omega), if_neg (by omega)]
set_option maxRecDepth 100000 in
theorem fwB_ok {M : Nat → Nat → Int} (h : FwOk M) (k a m : Nat) : FwOk (fwB M k a m) := by
  refine ⟨fun x => ?_, fun x y => ?_⟩
  · rw [fwB_at h, if_neg (by omega)]; exact h.diag x
  · rw [fwB_at h]
    have := h.pos x y
    split <;> omega
set_option maxRecDepth 100000 in
theorem fwA_at {n : Nat} {M : Nat → Nat → Int} (h : FwOk M) (k : Nat) : ∀ i x y, fwA n M k i x y = if x < i ∧ y < n ∧ x ≠ y then max (M x y) (min (M x k) (M k y)) else M x y
  | 0, x, y => by simp [fwA]
  | i + 1, x, y => by
    have ih := fwA_at (n := n) h k i
    have hok : FwOk (fwA n M k i) := by
      refine ⟨fun x => ?_, fun x y => ?_⟩
      · rw [ih, if_neg (by omega)]; exact h.diag x
      · rw [ih]
        have := h.pos x y
        split <;> omega
    have d1 := h.diag k
    have p2 := h.pos k y
    have ek : fwA n M k i k y = M k y := by
      rw [ih]; split
      · rw [d1]; omega
      · rfl
    have e : fwA n M k (i + 1) x y = if x = i ∧ y < n ∧ x ≠ y then max (fwA n M k i x y) (min (fwA n M k i x k) (fwA n M k i k y)) else fwA n M k i x y := fwB_at hok k i n x y
    rw [ek] at e
    by_cases hx : x = i
    · have f1 : fwA n M k i x y = M x y := by rw [ih, if_neg (by omega)]
      have f2 : fwA n M k i x k = M x k := by rw [ih, if_neg (by omega)]
      rw [e, f1, f2]
      by_cases hc : y < n ∧ x ≠ y
      · rw [if_pos (by omega), if_pos (by omega)]
      · rw [if_neg (by omega), if_neg (by omega)]
    · rw [e, if_neg (by omega), ih]
      by_cases hc : x < i ∧ y < n ∧ x ≠ y
      · rw [if_pos hc, if_pos (by omega)]
      · rw [if_neg hc, if_neg (by omega)]
/-- Paths through the first k candidates are counted. -/
structure FwTo (n : Nat) (M : Nat → Nat → Int) (k : Nat) : Prop where
  ok : FwOk M
  tri : ∀ i a b, i < k → a < n → b < n → a ≠ b → min (M a i) (M i b) ≤ M a b
set_option maxRecDepth 100000 in
theorem fwA_to {n : Nat} {M : Nat → Nat → Int} {k : Nat} (h : FwTo n M k) (hk : k < n) : FwTo n (fwA n M k n) (k + 1) := by
  have hat := fun x y => fwA_at (n := n) h.ok k n x y
  refine ⟨⟨fun x => ?_, fun x y => ?_⟩, fun i a b hi ha hb hne => ?_⟩
  · rw [hat, if_neg (by omega)]; exact h.ok.diag x
  · rw [hat]
    have := h.ok.pos x y
    split <;> omega
  · have hin : i < n := by omega
    have pak := h.ok.pos a k
    have pkb := h.ok.pos k b
    have pab := h.ok.pos a b
    have pai := h.ok.pos a i
    have pib := h.ok.pos i b
    have dk := h.ok.diag k
    have di := h.ok.diag i
    have e3 := hat a b
    rw [if_pos ⟨ha, hb, hne⟩] at e3
    have e1 := hat a i
    have e2 := hat i b
    by_cases hik : i = k
    · subst hik
      have f1 : fwA n M i n a i = M a i := by
        rw [e1]; split
        · rw [di]; omega
        · rfl
      have f2 : fwA n M i n i b = M i b := by
        rw [e2]; split
        · rw [di]; omega
        · rfl
      rw [f1, f2, e3]; omega
    · have hlt : i < k := by omega
      by_cases hai : a = i
      · subst hai
        rw [if_neg (by omega)] at e1
        rw [e1, e3, di]; omega
      · by_cases hib : i = b
        · subst hib
          rw [if_neg (by omega)] at e2
          rw [e2, e3, di]; omega
        · rw [if_pos ⟨ha, hin, hai⟩] at e1
          rw [if_pos ⟨hin, hb, hib⟩] at e2
          rw [e1, e2, e3]
          have t1 := h.tri i a b hlt ha hb hne
          have t2 : a = k ∨ min (M a i) (M i k) ≤ M a k := by
            by_cases hak : a = k
            · exact .inl hak
            · exact .inr (h.tri i a k hlt ha hk hak)
          have t3 : k = b ∨ min (M k i) (M i b) ≤ M k b := by
            by_cases hkb : k = b
            · exact .inl hkb
            · exact .inr (h.tri i k b hlt hk hb hkb)
          have pki := h.ok.pos k i
          have pik := h.ok.pos i k
          rcases t2 with rfl | t2
          · rcases t3 with rfl | t3
            · exact absurd rfl hne
            · omega
          · rcases t3 with rfl | t3
            · omega
            · omega
set_option maxRecDepth 100000 in
theorem fw0_ok {sz : Int} {vs : List Vt} (hS : SmallV sz vs) : FwOk (fw0 vs) := by
  refine ⟨fun x => ?_, fun x y => ?_⟩
  · unfold fw0 bt; rw [beatsV_self]; simp
  · unfold fw0
    have := (sumV_bd' (p := fun r => prefB r (x : Int) (y : Int)) hS).1
    split
    · exact this
    · omega
set_option maxRecDepth 100000 in
theorem fwK_to {n : Nat} {sz : Int} {vs : List Vt} (hS : SmallV sz vs) : ∀ k, k ≤ n → FwTo n (fwK n (fw0 vs) k) k
  | 0, _ => ⟨fw0_ok hS, fun i _ _ hi => absurd hi (by omega)⟩
  | k + 1, hk => by
    rw [fwK]
    exact fwA_to (fwK_to hS k (by omega)) (by omega)
set_option maxRecDepth 100000 in
theorem pth_to {n : Nat} {sz : Int} {vs : List Vt} (hS : SmallV sz vs) : FwTo n (pthV n vs) n := fwK_to hS n (Nat.le_refl _)
set_option maxRecDepth 100000 in
/-- A relation that leads nowhere back has an end among the first n. -/
theorem last_of {R : Nat → Nat → Prop} (hirr : ∀ a, ¬ R a a) : ∀ n, 1 ≤ n → (∀ a b c, a < n → b < n → c < n → R a b → R b c → R a c) → ∃ a, a < n ∧ ∀ b, b < n → ¬ R b a
  | 0, h, _ => by omega
  | n + 1, _, ht => by
    by_cases h0 : n = 0
    · subst h0
      exact ⟨0, by omega, fun b hb => by
        have : b = 0 := by omega
        subst this; exact hirr 0⟩
    · obtain ⟨a, ha, hA⟩ := last_of (R := R) hirr n (by omega) (fun a b c h1 h2 h3 => ht a b c (by omega) (by omega) (by omega))
      by_cases hR : R n a
      · refine ⟨n, by omega, fun b hb => ?_⟩
        by_cases hbn : b = n
        · subst hbn; exact hirr b
        · exact fun hbR => hA b (by omega) (ht b n a (by omega) (by omega) (by omega) hbR hR)
      · refine ⟨a, by omega, fun b hb => ?_⟩
        by_cases hbn : b = n
        · subst hbn; exact hR
        · exact hA b (by omega)
set_option maxRecDepth 100000 in
theorem sch_trans {n : Nat} {M : Nat → Nat → Int} (h : FwTo n M n) {a b c : Nat} (ha : a < n) (hb : b < n) (hc : c < n) (h1 : M b a < M a b) (h2 : M c b < M b c) : M c a < M a c := by
  have hab : a ≠ b := fun e => by subst e; omega
  have hbc : b ≠ c := fun e => by subst e; omega
  have hac : a ≠ c := fun e => by subst e; omega
  have t1 := h.tri b a c hb ha hc hac
  have t2 := h.tri c b a hc hb ha (Ne.symm hab)
  have t3 := h.tri a c b ha hc hb (Ne.symm hbc)
  omega
set_option maxRecDepth 100000 in
/-- There is a winner by paths. -/
theorem sch_some {n : Nat} {vs : List Vt} (h0 : profOk n vs = true) : ∃ a, a < n ∧ ∀ b, b < n → pthV n vs b a ≤ pthV n vs a b := by
  have hS := prof_small h0
  have hp := pth_to (n := n) hS
  obtain ⟨a, ha, hA⟩ := last_of (R := fun b a => pthV n vs a b < pthV n vs b a) (fun a h => by omega) n (by have := prof_size h0; omega) (fun a b c h1 h2 h3 r1 r2 => sch_trans hp h1 h2 h3 r1 r2)
  exact ⟨a, ha, fun b hb => by have := hA b hb; omega⟩
set_option maxRecDepth 100000 in
theorem sch_mem {n : Nat} {vs : List Vt} (h0 : profOk n vs = true) {x : Int} : x ∈ schO n vs ↔ ∃ a : Nat, a < n ∧ x = a ∧ ∀ b, b < n → pthV n vs b a ≤ pthV n vs a b := by
  unfold schO thoseO
  rw [if_pos h0, Int.toNat_natCast, upL_mem]
  constructor
  · rintro ⟨i, hi, hq, rfl⟩
    refine ⟨i, hi, rfl, fun b hb => ?_⟩
    have h1 := allN_at hq hb
    by_cases e : i = b
    · subst e; exact Int.le_refl _
    · simpa [e, schP] using h1
  · rintro ⟨a, ha, rfl, h⟩
    refine ⟨a, ha, allN_t fun j hj => ?_, rfl⟩
    simp [schP, h j hj]
set_option maxRecDepth 100000 in
theorem sch_ne {n : Nat} {vs : List Vt} (h0 : profOk n vs = true) : schO n vs ≠ [] := by
  obtain ⟨a, ha, h⟩ := sch_some h0
  have : (a : Int) ∈ schO n vs := (sch_mem h0).2 ⟨a, ha, rfl, h⟩
  intro e
  rw [e] at this
  cases this

def allV (vs : List Vt) : Int := sumV (fun _ => true) vs
def minTo (vs : List Vt) (V : Int) (i : Nat) : Nat → Int
  | 0 => V
  | m + 1 => if i = m then minTo vs V i m else min (minTo vs V i m) (pairV vs i m)
set_option maxRecDepth 100000 in
theorem min_if (x y : Int) : (if y < x then y else x) = min x y := by split <;> omega
set_option maxRecDepth 100000 in
theorem minTo_bd {sz : Int} {vs : List Vt} (hS : SmallV sz vs) (i : Nat) : ∀ m, 0 ≤ minTo vs (allV vs) i m ∧ minTo vs (allV vs) i m ≤ 24000
  | 0 => by unfold minTo; exact sumV_bd' hS
  | m + 1 => by
    have h1 := minTo_bd hS i m
    have h2 : 0 ≤ pairV vs i m ∧ pairV vs i m ≤ 24000 := sumV_bd' hS
    unfold minTo
    split
    · exact h1
    · omega
def maxiO (sz : Int) (vs : List Vt) : List Int := if profOk sz vs then rowL sz.toNat (fun i => minTo vs (allV vs) i sz.toNat) else []
set_option maxRecDepth 100000 in
theorem maxiO_len (sz : Int) (vs : List Vt) : (maxiO sz vs).length ≤ 5 := by
  unfold maxiO
  cases h0 : profOk sz vs
  · simp
  · obtain ⟨n, rfl, n1, n2⟩ := prof_nat h0
    simp [rowL_len]; omega

set_option maxRecDepth 100000 in
set_option maxHeartbeats 1000000 in
theorem trueF (w : World) (a : Value) : Calls Try.prog 110 #[a] w fun e w' => e = .returned (.bool true) ∧ Ext w w' := by
  go_enter Try.func110, Try.ntmps110
  go_wp2
  go_ret
  exact ⟨rfl, Ext.refl _⟩
set_option maxRecDepth 100000 in
set_option maxHeartbeats 1000000 in
theorem count_impl (w : World) (sz : Int) (a : Option Addr) (c : Nat) (vs : List Vt) (hR : RdV w a vs) :
    Calls Try.prog 25 #[.agg #[.int .i64 sz, .slice a vs.length c]] w fun e w' => e = .returned (.int .i64 (if profOk sz vs then allV vs else -1)) ∧ Ext w w' := by
  have q0 := new0 w (.int .i64 sz) [.slice a vs.length c] 47
  have q1 := new1 w (.int .i64 sz) (.slice a vs.length c) [] 47
  cases h0 : profOk sz vs
  · go_enter Try.func25, Try.ntmps25
    go_wp2_with (go_at_call 35; refine (prof_impl _ _ _ _ _ (hR.ext (by repeat (first | exact Ext.refl _ | assumption | refine Ext.alloc ?_ _ | refine Ext.drew ?_ | refine Ext.trans ?_ (by assumption))))).mono ?_; rintro e w1 ⟨rfl, hw1⟩; have q0 := Ext.keep (w' := w1) (by repeat (first | exact Ext.refl _ | assumption | refine Ext.alloc ?_ _ | refine Ext.drew ?_ | refine Ext.trans ?_ (by assumption))) q0; have q1 := Ext.keep (w' := w1) (by repeat (first | exact Ext.refl _ | assumption | refine Ext.alloc ?_ _ | refine Ext.drew ?_ | refine Ext.trans ?_ (by assumption))) q1)
    go_ret
    exact ⟨ret_int (by simp), (by repeat (first | exact Ext.refl _ | assumption | refine Ext.alloc ?_ _ | refine Ext.drew ?_ | refine Ext.trans ?_ (by assumption)))⟩
  · have HS := hide (prof_small h0)
    go_enter Try.func25, Try.ntmps25
    go_wp2_with (go_at_call 35; refine (prof_impl _ _ _ _ _ (hR.ext (by repeat (first | exact Ext.refl _ | assumption | refine Ext.alloc ?_ _ | refine Ext.drew ?_ | refine Ext.trans ?_ (by assumption))))).mono ?_; rintro e w1 ⟨rfl, hw1⟩; have q0 := Ext.keep (w' := w1) (by repeat (first | exact Ext.refl _ | assumption | refine Ext.alloc ?_ _ | refine Ext.drew ?_ | refine Ext.trans ?_ (by assumption))) q0; have q1 := Ext.keep (w' := w1) (by repeat (first | exact Ext.refl _ | assumption | refine Ext.alloc ?_ _ | refine Ext.drew ?_ | refine Ext.trans ?_ (by assumption))) q1)
    refine (votersV 110 #[] #[] (fun _ => true) _ sz _ _ vs (hR.ext (by repeat (first | exact Ext.refl _ | assumption | refine Ext.alloc ?_ _ | refine Ext.drew ?_ | refine Ext.trans ?_ (by assumption)))) HS.out Try.call110 (fun x a' c' w' _ _ _ _ => trueF _ _)).mono ?_
    rintro e w2 ⟨rfl, hw2⟩
    go_wp2
    go_ret
    exact ⟨ret_int (by simp [allV]), (by repeat (first | exact Ext.refl _ | assumption | refine Ext.alloc ?_ _ | refine Ext.drew ?_ | refine Ext.trans ?_ (by assumption)))⟩

def tabM (vs : List Vt) (n i m o : Nat) : Int := if o < i then minTo vs (allV vs) o n else if o = i then minTo vs (allV vs) i m else allV vs
set_option maxRecDepth 100000 in
theorem tabM_zero (vs : List Vt) (n o : Nat) : tabM vs n 0 0 o = allV vs := by
  unfold tabM; rw [if_neg (by omega)]; split
  · rename_i h; subst h; rfl
  · rfl
set_option maxRecDepth 100000 in
theorem tabM_at (vs : List Vt) (n i m : Nat) : tabM vs n i m i = minTo vs (allV vs) i m := by
  unfold tabM; rw [if_neg (by omega), if_pos rfl]
set_option maxRecDepth 100000 in
theorem tabM_far (vs : List Vt) (n i m m' : Nat) {o : Nat} (h : o ≠ i) : tabM vs n i m o = tabM vs n i m' o := by
  unfold tabM; rw [if_neg h, if_neg h]
set_option maxRecDepth 100000 in
theorem tabM_done (vs : List Vt) (n i o : Nat) : tabM vs n i n o = tabM vs n (i + 1) 0 o := by
  unfold tabM
  by_cases h1 : o < i
  · rw [if_pos h1, if_pos (by omega)]
  · by_cases h2 : o = i
    · subst h2; rw [if_neg h1, if_pos rfl, if_pos (by omega)]
    · rw [if_neg h1, if_neg h2, if_neg (by omega)]; split
      · rename_i h; subst h; rfl
      · rfl

set_option maxRecDepth 100000 in
set_option maxHeartbeats 4000000 in
theorem maxi_impl (w : World) (sz : Int) (a : Option Addr) (c : Nat) (vs : List Vt) (hR : RdV w a vs) :
    Calls Try.prog 53 #[.agg #[.int .i64 sz, .slice a vs.length c]] w fun e w' => ∃ v, e = .returned v ∧ WrI w' w.heap.size v (maxiO sz vs) ∧ Ext w w' := by
  have q0 := new0 w (.int .i64 sz) [.slice a vs.length c] 47
  have q1 := new1 w (.int .i64 sz) (.slice a vs.length c) [] 47
  cases h0 : profOk sz vs
  · go_enter Try.func53, Try.ntmps53
    go_wp2_with (go_at_call 35; refine (prof_impl _ _ _ _ _ (hR.ext (by repeat (first | exact Ext.refl _ | assumption | refine Ext.alloc ?_ _ | refine Ext.drew ?_ | refine Ext.trans ?_ (by assumption))))).mono ?_; rintro e w1 ⟨rfl, hw1⟩; have q0 := Ext.keep (w' := w1) (by repeat (first | exact Ext.refl _ | assumption | refine Ext.alloc ?_ _ | refine Ext.drew ?_ | refine Ext.trans ?_ (by assumption))) q0; have q1 := Ext.keep (w' := w1) (by repeat (first | exact Ext.refl _ | assumption | refine Ext.alloc ?_ _ | refine Ext.drew ?_ | refine Ext.trans ?_ (by assumption))) q1)
    go_ret
    exact ⟨_, rfl, by simp [maxiO, h0]; exact WrI.nil _ _ _ _, (by repeat (first | exact Ext.refl _ | assumption | refine Ext.alloc ?_ _ | refine Ext.drew ?_ | refine Ext.trans ?_ (by assumption)))⟩
  obtain ⟨n, rfl, n1, n2⟩ := prof_nat h0
  have HS := hide (prof_small h0)
  go_enter Try.func53, Try.ntmps53
  go_wp2_with (go_at_call 35; refine (prof_impl _ _ _ _ _ (hR.ext (by repeat (first | exact Ext.refl _ | assumption | refine Ext.alloc ?_ _ | refine Ext.drew ?_ | refine Ext.trans ?_ (by assumption))))).mono ?_; rintro e w1 ⟨rfl, hw1⟩; have q0 := Ext.keep (w' := w1) (by repeat (first | exact Ext.refl _ | assumption | refine Ext.alloc ?_ _ | refine Ext.drew ?_ | refine Ext.trans ?_ (by assumption))) q0; have q1 := Ext.keep (w' := w1) (by repeat (first | exact Ext.refl _ | assumption | refine Ext.alloc ?_ _ | refine Ext.drew ?_ | refine Ext.trans ?_ (by assumption))) q1)
  refine wp_region_O [0, 1, 3, 4, 2, 5, 6] (by kernel_rfl) rfl (by kernel_rfl) ?_
  repeat' (refine wpO_stepQ rfl (fun K hK => ?_)
           go_simp
           try (rw [if_neg (by intro h; simp [undef] at h)])
           try split
           all_goals
             first
             | (refine hK _ ?_
                clear hK K)
             | (apply Exists.intro
                refine ⟨fun wq hwq => ?_, hK _ ?_⟩
                · have hcq := hwq.cellS
                  go_simp
                  first
                  | exact ⟨Ext.refl _, rfl⟩
                  | exact ⟨Ext.refl _, count_impl _ _ _ _ _ (hR.ext (by repeat (first | exact Ext.refl _ | assumption | refine Ext.alloc ?_ _ | refine Ext.drew ?_ | refine Ext.trans ?_ (by assumption))))⟩
                clear hK K))
  refine wpO_stepS rfl (by kernel_rfl) (fun K hK wq hwq => ?_)
  go_simp
  refine ⟨(by repeat (first | exact Ext.refl _ | assumption | refine Ext.alloc ?_ _ | refine Ext.drew ?_ | refine Ext.trans ?_ (by assumption))), hK _ _ ?_⟩
  clear hK K
  refine wpO_stepS rfl (by kernel_rfl) (fun K hK wq hwq => ?_)
  go_simp
  refine (rep_impl _ _ _ _ _ n n1 n2 (Ext.keep hwq (new0 _ _ _ _))).mono ?_
  rintro e w3 ⟨g, rfl, hg, hB, hw3⟩
  refine ⟨hw3, hK _ _ ?_⟩
  clear hK K
  repeat' (refine wpO_stepQ rfl (fun K hK => ?_)
           go_simp
           try (rw [if_neg (by intro h; simp [undef] at h)])
           try split
           all_goals
             first
             | (refine hK _ ?_
                clear hK K)
             | (apply Exists.intro
                refine ⟨fun wq hwq => ?_, hK _ ?_⟩
                · have hcq := hwq.cellS
                  go_simp
                  first
                  | exact ⟨Ext.refl _, rfl⟩
                clear hK K))
  refine wpO_nil (fun wz hwz => ?_)
  have hw : Ext w w1 := (by repeat (first | exact Ext.refl _ | assumption | refine Ext.alloc ?_ _ | refine Ext.drew ?_ | refine Ext.trans ?_ (by assumption)))
  have hwb : Ext w1 wz := (by repeat (first | exact Ext.refl _ | assumption | refine Ext.alloc ?_ _ | refine Ext.drew ?_ | refine Ext.trans ?_ (by assumption)))
  have hgw : w1.heap.size ≤ g := Nat.le_trans (Ext.size (show Ext w1 wq from (by repeat (first | exact Ext.refl _ | assumption | refine Ext.alloc ?_ _ | refine Ext.drew ?_ | refine Ext.trans ?_ (by assumption))))) hg
  have hB := (hB.ext hwz).congr (f' := fun o => .int .i64 (tabM vs n 0 0 o)) (fun o ho => by rw [tabM_zero])
  have hR0 := hR.ext hw
  clear hwz hw3 hwq hg
  obtain ⟨wb, hwbe⟩ : ∃ wb : World, wb = w1 := ⟨_, rfl⟩
  subst hwbe
  go_wp2
  go_loopw [4, 5, 17, 21, 22] (fun _ _ i _ _ wr => ∃ k : Nat, k ≤ n ∧ i = .int .i64 k ∧ BlkF wr g n (fun o => .int .i64 (tabM vs n k 0 o)) ∧ Ext wb wr) (fun _ _ i _ _ _ => n - (intOf i).toNat)
  case atStart => exact ⟨0, Nat.zero_le _, rfl, hB, hwb⟩
  case round =>
    clear hB hwb
    obtain ⟨i, hi, rfl, hB, hwr⟩ := hrel
    have r0 := hwr.keep q0
    by_cases hit : i < n
    · go_wp2
      go_loopw [5, 22] (fun _ m wr => ∃ k : Nat, k ≤ n ∧ m = .int .i64 k ∧ BlkF wr g n (fun o => .int .i64 (tabM vs n i k o)) ∧ Ext wb wr) (fun _ m _ => n - (intOf m).toNat)
      case atStart => exact ⟨0, Nat.zero_le _, rfl, hB, hwr⟩
      case round =>
        clear hB hwr r0
        obtain ⟨m, hm, rfl, hB, hwr⟩ := hrel
        have r0 := hwr.keep q0
        have r1 := hwr.keep q1
        by_cases hlt : m < n
        · by_cases e : i = m
          · have e' : (i : Int) = (m : Int) := by omega
            have HB := hide hB
            clear hB
            go_wp2
            refine ⟨⟨m + 1, by omega, by go_num, HB.out.congr (fun o _ => ?_), (by repeat (first | exact Ext.refl _ | assumption | refine Ext.alloc ?_ _ | refine Ext.drew ?_ | refine Ext.trans ?_ (by assumption)))⟩, by simp [intOf]; omega⟩
            by_cases e2 : o = i
            · subst e2; rw [tabM_at, tabM_at, minTo, if_pos e]
            · rw [tabM_far vs n i m (m + 1) e2]
          · have e' : ¬ (i : Int) = (m : Int) := by omega
            have d0 := hB.cell i hit
            rw [tabM_at] at d0
            have z0 := hB.fr i
            have HB := hide hB
            clear hB
            go_wp2
            refine wp_region_X (by kernel_rfl) (by kernel_rfl) ?_
            repeat' (refine wpX_stepQ (fun K hK => ?_)
                     go_simp
                     try (rw [if_neg (by intro h; simp [undef] at h)])
                     try split
                     all_goals
                       first
                       | (refine hK _ ?_
                          clear hK K)
                       | (apply Exists.intro
                          refine ⟨fun wq hwq => ?_, hK _ ?_⟩
                          · have hcq := hwq.cellS
                            go_simp
                            first
                            | exact ⟨Ext.refl _, rfl⟩
                            | exact ⟨Ext.refl _, pairI_impl _ _ _ _ _ _ _ (hR0.ext (by repeat (first | exact Ext.refl _ | assumption | refine Ext.alloc ?_ _ | refine Ext.drew ?_ | refine Ext.trans ?_ (by assumption)))) HS.out⟩
                          clear hK K))
            all_goals
              refine wpX_stepL rfl (by kernel_rfl) (by kernel_rfl) (by kernel_rfl) (fun K hK wz hwz => ?_)
              have hcz := hwz.cellS
              have hfz := hwz.frozenS
              go_simp
              refine hK _ _ ?_
              clear hK K
              go_wp2
              refine ⟨⟨m + 1, by omega, by go_num, ((HB.out.ext hwz).set i hit _).congr (fun o _ => ?_), Ext.setCell (Ext.trans hwr hwz) (by omega) _⟩, by simp [intOf]; omega⟩
              by_cases e2 : o = i
              · subst e2; rw [if_pos rfl, tabM_at, minTo, if_neg e, ← min_if]; first | rw [if_pos (by assumption)] | rw [if_neg (by omega)]
              · rw [if_neg e2, tabM_far vs n i m (m + 1) e2]
        · have hmn : m = n := by omega
          go_wp2
          exact ⟨⟨i + 1, by omega, by go_num, hB.congr (fun o _ => by rw [hmn, tabM_done]), hwr⟩, by simp [intOf]; omega⟩
    · have hin : i = n := by omega
      go_wp2
      go_ret
      have he : maxiO n vs = rowL n (fun i => minTo vs (allV vs) i n) := by simp [maxiO, h0]
      rw [he]
      refine ⟨_, rfl, hB.wrI (rowL_len _ _) (fun j x hx => ?_) (Nat.le_trans hw.size hgw) (Nat.le_refl _), hw.trans hwr⟩
      obtain ⟨hj, rfl⟩ := rowL_val hx
      simp only [tabM, hin, if_pos hj]

end Go.Proofs.Ythiojkpoeejkaaa
