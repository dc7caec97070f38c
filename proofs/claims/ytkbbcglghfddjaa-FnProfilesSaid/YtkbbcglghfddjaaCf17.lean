/- Rankings: all of them stand in the list of all rankings; the one in which each beats all behind it (plain law). Sums over candidates and votes (plain law). slices.Concat of two lists of integers. A row appended to an own matrix, with the frame told. All rankings, as the spec draws them. All rankings of the spec, from the start. -/
import Derived.Test.YtkbbcglghfddjaaCf16
import Derived.Test.YtkbbcglghfddjaaCf7
import Derived.Test.YtkbbcglghfddjaaCf15
import Derived.Test.YtkbbcglghfddjaaCf10
import Derived.Test.YtkbbcglghfddjaaCf11
import Derived.Lib.AppendZeros
import Derived.Test.YtkbbcglghfddjaaCf5
import Derived.Test.YtkbbcglghfddjaaCf4
namespace Go.Proofs.Ytkbbcglghfddjaa
open Go.RowKit

set_option maxRecDepth 100000 in
theorem leftL_snoc {n : Nat} {out : List Int} {x y : Int} : y ∈ leftL n (out ++ [x]) ↔ y ∈ leftL n out ∧ y ≠ x := by
  rw [leftL_mem, leftL_mem]
  constructor
  · rintro ⟨i, hi, hn, rfl⟩
    rw [List.mem_append] at hn
    exact ⟨⟨i, hi, fun h => hn (.inl h), rfl⟩, fun h => hn (.inr (by simp [h]))⟩
  · rintro ⟨⟨i, hi, hn, rfl⟩, hne⟩
    refine ⟨i, hi, fun h => ?_, rfl⟩
    rcases List.mem_append.1 h with h | h
    · exact hn h
    · simp at h; exact hne h
set_option maxRecDepth 100000 in
theorem leftL_drop {n : Nat} {out : List Int} {x : Int} (h : x ∈ leftL n out) : (leftL n (out ++ [x])).length + 1 = (leftL n out).length := by
  obtain ⟨i, hi⟩ := List.mem_iff_getElem?.1 h
  have hlt := lt_of_at hi
  rw [← leftL_erase hi, List.length_eraseIdx, if_pos hlt]
  omega
set_option maxRecDepth 100000 in
theorem allS_mem (n : Nat) : ∀ (k : Nat) (pre : List Int), (leftL n pre).length = k → ∀ r : List Int, r ∈ allS n k pre ↔ ∃ s : List Int, r = pre ++ s ∧ s.Nodup ∧ s.length = k ∧ ∀ x ∈ s, x ∈ leftL n pre
  | 0, pre, _, r => by
    simp only [allS, List.mem_singleton]
    constructor
    · rintro rfl; exact ⟨[], by simp, List.nodup_nil, rfl, fun x h => by simp at h⟩
    · rintro ⟨s, rfl, _, hl, _⟩
      have : s = [] := List.length_eq_zero_iff.1 hl
      subst this; simp
  | k + 1, pre, hl, r => by
    rw [allS, List.mem_flatMap]
    constructor
    · rintro ⟨x, hx, hr⟩
      have hd := leftL_drop hx
      obtain ⟨s, rfl, hs1, hs2, hs3⟩ := (allS_mem n k (pre ++ [x]) (by omega) r).1 hr
      refine ⟨x :: s, by simp, List.nodup_cons.2 ⟨fun h => (leftL_snoc.1 (hs3 x h)).2 rfl, hs1⟩, by simp [hs2], fun y hy => ?_⟩
      rcases List.mem_cons.1 hy with rfl | hy
      · exact hx
      · exact (leftL_snoc.1 (hs3 y hy)).1
    · rintro ⟨s, rfl, hs1, hs2, hs3⟩
      cases s with
      | nil => simp at hs2
      | cons x s =>
        have hx := hs3 x (by simp)
        have hd := leftL_drop hx
        rw [List.nodup_cons] at hs1
        refine ⟨x, hx, (allS_mem n k (pre ++ [x]) (by omega) _).2 ⟨s, by simp, hs1.2, by simpa using hs2, fun y hy => leftL_snoc.2 ⟨hs3 y (by simp [hy]), ?_⟩⟩⟩
        rintro rfl; exact hs1.1 hy
set_option maxRecDepth 100000 in
theorem allO_mem {n : Nat} (n1 : 1 ≤ n) (n2 : n ≤ 5) {r : List Int} : r ∈ allO n ↔ rkOk n r = true := by
  unfold allO
  rw [allS_mem n n [] (by rw [leftL_nil, upL_true_len])]
  have hin : inR (n : Int) 1 5 = true := inR_iff.2 (by omega)
  constructor
  · rintro ⟨s, rfl, h1, h2, h3⟩
    simp only [rkOk, hin, Bool.true_and, Bool.and_eq_true, decide_eq_true_eq, List.all_eq_true]
    refine ⟨by omega, fun x hx => ?_, h1⟩
    obtain ⟨i, hi, _, rfl⟩ := leftL_mem.1 (h3 x hx)
    rw [inR_iff]; omega
  · intro h
    have h1 := rk_nodup h
    have h2 := (rk_len h).1
    refine ⟨r, by simp, h1, by omega, fun x hx => ?_⟩
    have h3 := rk_mem h hx
    exact leftL_mem.2 ⟨x.toNat, by omega, by simp, by omega⟩
set_option maxRecDepth 100000 in
theorem allO_ne {n : Nat} (n1 : 1 ≤ n) (n2 : n ≤ 5) : ∃ r, r ∈ allO n := by
  refine ⟨upL n (fun _ => true), (allO_mem n1 n2).2 ?_⟩
  have hin : inR (n : Int) 1 5 = true := inR_iff.2 (by omega)
  simp only [rkOk, hin, Bool.true_and, Bool.and_eq_true, decide_eq_true_eq, List.all_eq_true]
  refine ⟨by rw [upL_true_len], fun x hx => ?_, upL_nodup _ _⟩
  obtain ⟨i, hi, _, rfl⟩ := upL_mem.1 hx
  rw [inR_iff]; omega
set_option maxRecDepth 100000 in
/-- A ranking holds the candidates, in its order. -/
theorem rk_perm {n : Nat} {r : List Int} (h : rkOk n r = true) : r.Perm (upL n (fun _ => true)) := by
  rw [List.perm_ext_iff_of_nodup (rk_nodup h) (upL_nodup _ _)]
  intro x
  rw [upL_mem]
  constructor
  · intro hx
    have := rk_mem h hx
    exact ⟨x.toNat, by omega, rfl, by omega⟩
  · rintro ⟨i, hi, _, rfl⟩
    exact rk_all h hi
set_option maxRecDepth 100000 in
theorem cntN_perm {n : Nat} {r : List Int} (h : rkOk n r = true) (p : Int → Bool) : cntN n (fun j => p j) = r.countP p := by
  rw [(rk_perm h).countP_eq]
  unfold cntN upL
  rw [List.filter_eq_self.2 (fun _ _ => rfl), List.countP_map]
  rfl

/-- Each beats all that stand behind it. -/
def mjQ (vs : List Vt) (y x : Int) : Bool := !beatsV vs x y
def mjOk (vs : List Vt) (r : List Int) : Bool := decide (bkI (mjQ vs) r = 0)
set_option maxRecDepth 100000 in
theorem mjOk_iff {vs : List Vt} {r : List Int} : mjOk vs r = true ↔ r.Pairwise (fun x y => beatsV vs x y = true) := by
  unfold mjOk
  rw [decide_eq_true_iff, bkI_zero]
  have : (fun x y => mjQ vs y x = false) = (fun x y => beatsV vs x y = true) := by
    funext x y; simp [mjQ]
  rw [this]
def mjO (n : Nat) (vs : List Vt) : Option (List Int) := (allO n).find? (mjOk vs)

set_option maxRecDepth 100000 in
theorem beatsV_anti {vs : List Vt} {x y : Int} (h : beatsV vs x y = true) : beatsV vs y x = false := by
  unfold beatsV at *
  simp only [decide_eq_true_eq, decide_eq_false_iff_not] at *
  omega
set_option maxRecDepth 100000 in
theorem beatsV_self (vs : List Vt) (x : Int) : beatsV vs x x = false := by simp [beatsV]
set_option maxRecDepth 100000 in
/-- In such a ranking the one at place i beats all but i + 1. -/
theorem mj_count {vs : List Vt} : ∀ {r : List Int} {i : Nat} {x : Int}, r.Pairwise (fun x y => beatsV vs x y = true) → r[i]? = some x → r.countP (fun y => beatsV vs x y) + (i + 1) = r.length
  | [], i, x, _, h => by simp at h
  | z :: zs, 0, x, hp, h => by
    simp at h
    subst h
    rw [List.pairwise_cons] at hp
    have : zs.countP (fun y => beatsV vs z y) = zs.length := List.countP_eq_length.2 (fun y hy => hp.1 y hy)
    rw [List.countP_cons, beatsV_self, this]
    simp
  | z :: zs, i + 1, x, hp, h => by
    rw [List.pairwise_cons] at hp
    simp only [List.getElem?_cons_succ] at h
    have ih := mj_count hp.2 h
    have hz := beatsV_anti (hp.1 x (List.mem_of_getElem? h))
    rw [List.countP_cons, hz, List.length_cons]
    simp; omega
set_option maxRecDepth 100000 in
theorem ups_at {n : Nat} {vs : List Vt} {r : List Int} (h : rkOk n r = true) (hp : mjOk vs r = true) {i : Nat} {x : Int} (hx : r[i]? = some x) : ∃ a : Nat, x = a ∧ a < n ∧ (upsL n vs)[a]? = some (((n - 1 - i : Nat)) : Int) := by
  have hm := rk_mem h (List.mem_of_getElem? hx)
  have hl := (rk_len h).1
  have hi := lt_of_at hx
  refine ⟨x.toNat, by omega, by omega, ?_⟩
  have hc := mj_count (mjOk_iff.1 hp) hx
  have hcn := cntN_perm h (fun y => beatsV vs x y)
  have e : (bt vs x.toNat) = (fun j : Nat => beatsV vs x (j : Int)) := by
    funext j
    unfold bt
    rw [show ((x.toNat : Nat) : Int) = x by omega]
  unfold upsL
  rw [rowL_at (show x.toNat < n by omega), e, hcn]
  congr 1
  omega
/-- The spec's candidate for that ranking. -/
def mjS (n : Nat) (vs : List Vt) : List Int := rowL n (fun i => placeI (upsL n vs) ((n : Int) - 1 - i))
set_option maxRecDepth 100000 in
theorem mjS_eq {n : Nat} {vs : List Vt} {r : List Int} (h : rkOk n r = true) (hp : mjOk vs r = true) : mjS n vs = r := by
  have hl := (rk_len h).1
  refine List.ext_getElem? (fun i => ?_)
  by_cases hi : i < n
  · obtain ⟨x, hx⟩ := at_of_lt (xs := r) (k := i) (by omega)
    rw [hx]
    unfold mjS
    rw [rowL_at hi]
    obtain ⟨a, rfl, ha, hat⟩ := ups_at h hp hx
    congr 1
    have e : ((n : Int) - 1 - (i : Int)) = ((n - 1 - i : Nat) : Int) := by omega
    unfold placeI
    rw [e]
    refine findI_some hat ?_ (by simp)
    rw [List.all_eq_true]
    intro y hy
    obtain ⟨b, hb⟩ := List.mem_iff_getElem?.1 hy
    have hba : b < a := by have := lt_of_at hb; rw [List.length_take] at this; omega
    rw [List.getElem?_take_of_lt hba] at hb
    obtain ⟨j, hj, _, hjb, _⟩ := place_at h (a := b) (by omega)
    obtain ⟨b', hb', _, hbt⟩ := ups_at h hp hjb
    have : b' = b := by omega
    subst this
    rw [hb] at hbt
    injection hbt with hbt
    have hne : j ≠ i := fun e => by subst e; rw [hx] at hjb; injection hjb with hjb; omega
    rw [hbt]
    have : (((n - 1 - i : Nat) : Int) == ((n - 1 - j : Nat) : Int)) = false := by
      rw [beq_eq_false_iff_ne]; omega
    rw [this]; rfl
  · have h1 : (mjS n vs)[i]? = none := List.getElem?_eq_none (by unfold mjS; rw [rowL_len]; omega)
    have h2 : r[i]? = none := List.getElem?_eq_none (by omega)
    rw [h1, h2]
set_option maxRecDepth 100000 in
theorem mjS_ok {n : Nat} {vs : List Vt} (n1 : 1 ≤ n) (n2 : n ≤ 5) (h : ∀ i : Nat, i < n → 0 ≤ placeI (upsL n vs) ((n : Int) - 1 - i)) : rkOk n (mjS n vs) = true := by
  have hin : inR (n : Int) 1 5 = true := inR_iff.2 (by omega)
  have hpl : ∀ v : Int, 0 ≤ placeI (upsL n vs) v → (upsL n vs)[(placeI (upsL n vs) v).toNat]? = some v ∧ placeI (upsL n vs) v < n := by
    intro v hv
    unfold placeI findI at hv ⊢
    split at hv
    · rename_i k hk
      rw [List.findIdx?_eq_some_iff_getElem] at hk
      obtain ⟨h1, h2, _⟩ := hk
      have h3 : v = (upsL n vs)[k] := by simpa using h2
      have h4 : (upsL n vs).length = n := rowL_len _ _
      refine ⟨?_, by omega⟩
      rw [Int.toNat_natCast, List.getElem?_eq_getElem h1, ← h3]
    · omega
  simp only [rkOk, hin, Bool.true_and, Bool.and_eq_true, decide_eq_true_eq, List.all_eq_true]
  refine ⟨by unfold mjS; rw [rowL_len], fun x hx => ?_, ?_⟩
  · obtain ⟨i, hi⟩ := List.mem_iff_getElem?.1 hx
    obtain ⟨hj, rfl⟩ := rowL_val hi
    have h1 := h i hj
    have h2 := (hpl _ h1).2
    rw [inR_iff]; omega
  · unfold mjS rowL
    refine List.Pairwise.map _ (fun a b hab => ?_) (List.pairwise_lt_range.imp_of_mem (fun ha hb hlt => (⟨hlt, List.mem_range.1 ha, List.mem_range.1 hb⟩ : _ ∧ _ ∧ _)))
    obtain ⟨hlt, ha, hb⟩ := hab
    intro e
    have h1 := (hpl _ (h a ha)).1
    have h2 := (hpl _ (h b hb)).1
    rw [e, h2] at h1
    injection h1 with h1
    omega
set_option maxRecDepth 100000 in
/-- The program's answer, as the spec finds it. -/
theorem mj_eq {n : Nat} {vs : List Vt} (n1 : 1 ≤ n) (n2 : n ≤ 5) : mjO n vs = if (∀ i : Nat, i < n → 0 ≤ placeI (upsL n vs) ((n : Int) - 1 - i)) ∧ mjOk vs (mjS n vs) = true then some (mjS n vs) else none := by
  unfold mjO
  cases hf : (allO n).find? (mjOk vs) with
  | none =>
    rw [List.find?_eq_none] at hf
    rw [if_neg]
    rintro ⟨h1, h2⟩
    exact hf _ ((allO_mem n1 n2).2 (mjS_ok n1 n2 h1)) h2
  | some r =>
    have hr := List.find?_some hf
    have hm := (allO_mem n1 n2).1 (List.mem_of_find?_eq_some hf)
    have he := mjS_eq hm hr
    have hlen := (rk_len hm).1
    have h1 : ∀ i : Nat, i < n → 0 ≤ placeI (upsL n vs) ((n : Int) - 1 - i) := fun i hi => by
      obtain ⟨x, hx⟩ := at_of_lt (xs := r) (k := i) (by omega)
      have := rk_mem hm (List.mem_of_getElem? hx)
      rw [← he] at hx
      unfold mjS at hx
      rw [rowL_at hi] at hx
      injection hx with hx
      omega
    rw [if_pos ⟨h1, by rw [he]; exact hr⟩, he]
set_option maxRecDepth 100000 in
/-- The spec's test of the pairs. -/
theorem mj_not {vs : List Vt} {r : List Int} {i j : Nat} {x y : Int} (hij : i < j) (hx : r[i]? = some x) (hy : r[j]? = some y) (hb : beatsV vs x y = false) : mjOk vs r = false := by
  cases h : mjOk vs r
  · rfl
  · have h1 := mjOk_iff.1 h
    have l1 := lt_of_at hx
    have l2 := lt_of_at hy
    have := List.pairwise_iff_getElem.1 h1 i j l1 l2 hij
    rw [List.getElem?_eq_getElem l1] at hx
    rw [List.getElem?_eq_getElem l2] at hy
    injection hx with hx
    injection hy with hy
    subst hx
    subst hy
    rw [hb] at this; cases this
set_option maxRecDepth 100000 in
theorem mj_yes {vs : List Vt} {r : List Int} (h : ∀ (i j : Nat) (x y : Int), i < j → r[i]? = some x → r[j]? = some y → beatsV vs x y = true) : mjOk vs r = true := by
  rw [mjOk_iff, List.pairwise_iff_getElem]
  intro i j hi hj hij
  exact h i j _ _ hij (List.getElem?_eq_getElem hi) (List.getElem?_eq_getElem hj)

/-- The first ranking with the least cost, this cost, and how many have it. -/
def lstT (cost : List Int → Int) (xss : List (List Int)) : Nat → List Int × Int × Nat
  | 0 => ([], 0, 0)
  | k + 1 => if k = 0 ∨ cost (xss.getD k []) < (lstT cost xss k).2.1 then (xss.getD k [], cost (xss.getD k []), 1)
    else if cost (xss.getD k []) = (lstT cost xss k).2.1 then ((lstT cost xss k).1, (lstT cost xss k).2.1, (lstT cost xss k).2.2 + 1) else lstT cost xss k
set_option maxRecDepth 100000 in
theorem lstT_mem {cost : List Int → Int} {xss : List (List Int)} : ∀ k, 1 ≤ k → k ≤ xss.length → (lstT cost xss k).1 ∈ xss ∧ (lstT cost xss k).2.1 = cost (lstT cost xss k).1
  | 0, h, _ => by omega
  | k + 1, _, hk => by
    obtain ⟨r, hr⟩ := at_of_lt (xs := xss) (k := k) (by omega)
    have hg : xss.getD k [] = r := by simp [List.getD, hr]
    have hm := List.mem_of_getElem? hr
    rw [lstT, hg]
    by_cases h0 : k = 0 ∨ cost r < (lstT cost xss k).2.1
    · rw [if_pos h0]; exact ⟨hm, rfl⟩
    · rw [if_neg h0]
      have ih := lstT_mem (cost := cost) (xss := xss) k (by omega) (by omega)
      split
      · exact ⟨ih.1, ih.2⟩
      · exact ih

def sgN (f : Nat → Int) : Nat → Int
  | 0 => 0
  | k + 1 => sgN f k + f k
set_option maxRecDepth 100000 in
theorem sgN_congr {f g : Nat → Int} : ∀ {n : Nat}, (∀ i, i < n → f i = g i) → sgN f n = sgN g n
  | 0, _ => rfl
  | n + 1, h => by rw [sgN, sgN, sgN_congr (fun i hi => h i (by omega)), h n (by omega)]
set_option maxRecDepth 100000 in
theorem sgN_add (f g : Nat → Int) : ∀ n, sgN (fun i => f i + g i) n = sgN f n + sgN g n
  | 0 => rfl
  | n + 1 => by rw [sgN, sgN, sgN, sgN_add f g n]; omega
set_option maxRecDepth 100000 in
theorem sgN_zero : ∀ n, sgN (fun _ => 0) n = 0
  | 0 => rfl
  | n + 1 => by rw [sgN, sgN_zero n]; rfl
set_option maxRecDepth 100000 in
theorem sgN_mul (c : Int) (f : Nat → Int) : ∀ n, sgN (fun i => c * f i) n = c * sgN f n
  | 0 => by simp [sgN]
  | n + 1 => by rw [sgN, sgN, sgN_mul c f n, Int.mul_add]
set_option maxRecDepth 100000 in
theorem sgN_const (c : Int) : ∀ n : Nat, sgN (fun _ => c) n = n * c
  | 0 => by simp [sgN]
  | n + 1 => by rw [sgN, sgN_const c n, Int.natCast_add, Int.add_mul]; simp
set_option maxRecDepth 100000 in
theorem sgN_le {f g : Nat → Int} : ∀ {n : Nat}, (∀ i, i < n → f i ≤ g i) → sgN f n ≤ sgN g n
  | 0, _ => Int.le_refl _
  | n + 1, h => by
    have h1 := sgN_le (f := f) (g := g) (n := n) (fun i hi => h i (by omega))
    have h2 := h n (by omega)
    rw [sgN, sgN]; omega
set_option maxRecDepth 100000 in
theorem sgN_swap (f : Nat → Nat → Int) (m : Nat) : ∀ n, sgN (fun i => sgN (f i) m) n = sgN (fun j => sgN (fun i => f i j) n) m
  | 0 => by simp only [sgN]; exact (sgN_zero m).symm
  | n + 1 => by
    rw [sgN, sgN_swap f m n, ← sgN_add]
    exact sgN_congr (fun j _ => rfl)
set_option maxRecDepth 100000 in
theorem perm_sum {a b : List Int} (h : a.Perm b) : a.sum = b.sum := by
  induction h with
  | nil => rfl
  | cons x _ ih => rw [List.sum_cons, List.sum_cons, ih]
  | swap x y l => rw [List.sum_cons, List.sum_cons, List.sum_cons, List.sum_cons]; omega
  | trans _ _ h1 h2 => rw [h1, h2]
set_option maxRecDepth 100000 in
theorem rowL_sum (f : Nat → Int) : ∀ n, (rowL n f).sum = sgN f n
  | 0 => rfl
  | n + 1 => by rw [rowL_succ, List.sum_append, rowL_sum f n, sgN]; simp
set_option maxRecDepth 100000 in
theorem place_sum {n : Nat} {r : List Int} (h : rkOk n r = true) (f : Nat → Int) : sgN (fun a => f (placeI r a).toNat) n = sgN f n := by
  have hp : (upL n (fun _ => true)).Perm r := (rk_perm h).symm
  have h1 := perm_sum (hp.map (fun x => f (placeI r x).toNat))
  have h2 : (upL n (fun _ => true)).map (fun x => f (placeI r x).toNat) = rowL n (fun a => f (placeI r a).toNat) := by
    rw [← iotaL_up]
    simp [iotaL, rowL]
  have h3 : r.map (fun x => f (placeI r x).toNat) = rowL n f := by
    refine List.ext_getElem? (fun j => ?_)
    have hl : r.length = n := by have := (rk_len h).1; omega
    by_cases hj : j < n
    · obtain ⟨x, hx⟩ := at_of_lt (xs := r) (k := j) (by omega)
      have hm := rk_mem h (List.mem_of_getElem? hx)
      obtain ⟨a, rfl⟩ : ∃ a : Nat, x = a := ⟨x.toNat, by omega⟩
      obtain ⟨k, _, hk, _, hu⟩ := place_at h (show a < n by omega)
      have e := hu j hx
      rw [List.getElem?_map, hx, rowL_at hj, Option.map_some, hk, ← e]
      simp
    · rw [List.getElem?_eq_none (by rw [List.length_map]; omega), List.getElem?_eq_none (by rw [rowL_len]; omega)]
  rw [h2, h3, rowL_sum, rowL_sum] at h1
  exact h1

set_option maxRecDepth 100000 in
theorem SmallV.head {sz : Int} {x : Vt} {vs : List Vt} (h : SmallV sz (x :: vs)) : rkOk sz x.1 = true ∧ 1 ≤ x.2 ∧ x.2 ≤ 1000 := h.2 x (by simp)
set_option maxRecDepth 100000 in
theorem allV_cons (x : Vt) (vs : List Vt) : allV (x :: vs) = x.2 + allV vs := by simp [allV, sumV]
set_option maxRecDepth 100000 in
theorem scoV_cons (f : Nat → Int) (x : Vt) (vs : List Vt) (a : Nat) : scoV f (x :: vs) a = x.2 * f (placeI x.1 a).toNat + scoV f vs a := by simp [scoV]
set_option maxRecDepth 100000 in
theorem allV_nonneg {sz : Int} : ∀ {vs : List Vt}, SmallV sz vs → 0 ≤ allV vs
  | [], _ => by simp [allV, sumV]
  | x :: vs, h => by have := allV_nonneg h.tail; have := h.head; rw [allV_cons]; omega
set_option maxRecDepth 100000 in
theorem allV_pos1 {sz : Int} {vs : List Vt} (h : SmallV sz vs) (hne : 1 ≤ vs.length) : 1 ≤ allV vs := by
  cases vs with
  | nil => simp at hne
  | cons x vs => have := allV_nonneg h.tail; have := h.head; rw [allV_cons]; omega
set_option maxRecDepth 100000 in
/-- Scores add up to the weights of all voters. -/
theorem sco_sum {n : Nat} (f : Nat → Int) : ∀ {vs : List Vt}, SmallV n vs → sgN (scoV f vs) n = sgN f n * allV vs
  | [], _ => by
    have : allV [] = 0 := rfl
    rw [this, Int.mul_zero]
    exact (sgN_congr (fun i _ => rfl)).trans (sgN_zero n)
  | x :: vs, h => by
    have ih := sco_sum f h.tail
    have h1 : sgN (scoV f (x :: vs)) n = sgN (fun a => x.2 * f (placeI x.1 a).toNat) n + sgN (scoV f vs) n := by
      rw [← sgN_add]
      exact sgN_congr (fun a _ => scoV_cons f x vs a)
    rw [h1, ih, sgN_mul, place_sum h.head.1, allV_cons, Int.mul_add, Int.mul_comm]
set_option maxRecDepth 100000 in
theorem pair_tot {n : Nat} {a b : Nat} (ha : a < n) (hb : b < n) (hne : a ≠ b) : ∀ {vs : List Vt}, SmallV n vs → pairV vs a b + pairV vs b a = allV vs
  | [], _ => rfl
  | x :: vs, h => by
    have ih := pair_tot ha hb hne h.tail
    have h1 := pref_tot h.head.1 ha hb hne
    unfold pairV at ih ⊢
    rw [sumV_cons, sumV_cons, allV_cons, h1]
    cases prefB x.1 b a <;> simp <;> omega
set_option maxRecDepth 100000 in
theorem pairW_self (vs : List Vt) (a : Int) : pairV vs a a = 0 := by
  induction vs with
  | nil => rfl
  | cons x vs ih =>
    unfold pairV at ih ⊢
    rw [sumV_cons, ih, pref_self]; rfl
set_option maxRecDepth 100000 in
theorem cnt_above (n k : Nat) : sgN (fun j => if k < j then 1 else 0) n = ((n - 1 - k : Nat) : Int) := by
  have key : ∀ m, sgN (fun j => if k < j then 1 else 0) m = ((m - 1 - k : Nat) : Int) := by
    intro m
    induction m with
    | zero => simp [sgN]
    | succ m ih =>
      rw [sgN, ih]
      by_cases h : k < m
      · rw [if_pos h]; omega
      · rw [if_neg h]; omega
  exact key n
set_option maxRecDepth 100000 in
/-- A voter's points by Borda are the candidates behind. -/
theorem bor_vote {n : Nat} {r : List Int} (h : rkOk n r = true) {a : Nat} (ha : a < n) : sgN (fun b => if prefB r a b then 1 else 0) n = borW n (placeI r a).toNat := by
  obtain ⟨k, hk, hp, _, _⟩ := place_at h ha
  have h1 : sgN (fun b => if prefB r a b then (1 : Int) else 0) n = sgN (fun b => (fun j => if k < j then (1 : Int) else 0) (placeI r b).toNat) n := by
    refine sgN_congr (fun b hb => ?_)
    obtain ⟨q, _, hq, _, _⟩ := place_at h hb
    have e : prefB r a b = decide (k < q) := by
      unfold prefB
      rw [hp, hq]
      have e1 : decide ((0 : Int) ≤ (k : Int)) = true := decide_eq_true (by omega)
      have e2 : decide ((0 : Int) ≤ (q : Int)) = true := decide_eq_true (by omega)
      rw [e1, e2, Bool.true_and, Bool.true_and, decide_eq_decide]
      omega
    rw [hq, e]
    simp
  rw [h1, place_sum h (fun j => if k < j then (1 : Int) else 0), cnt_above n k, hp]
  rfl
set_option maxRecDepth 100000 in
theorem bor_pairs {n : Nat} {a : Nat} (ha : a < n) : ∀ {vs : List Vt}, SmallV n vs → scoV (borW n) vs a = sgN (fun b => pairV vs a b) n
  | [], _ => (sgN_zero n).symm
  | x :: vs, h => by
    rw [scoV_cons, bor_pairs ha h.tail, ← bor_vote h.head.1 ha, ← sgN_mul, ← sgN_add]
    refine sgN_congr (fun b _ => ?_)
    unfold pairV
    rw [sumV_cons]
    cases prefB x.1 a b <;> simp
/-- A veto and a last place are the voters. -/
def lstV (n : Nat) (vs : List Vt) (a : Nat) : Int := scoV (fun j => if j + 1 = n then 1 else 0) vs a
set_option maxRecDepth 100000 in
theorem veto_last {n : Nat} {a : Nat} (ha : a < n) : ∀ {vs : List Vt}, SmallV n vs → scoV (vetW n) vs a + lstV n vs a = allV vs
  | [], _ => rfl
  | x :: vs, h => by
    have ih := veto_last ha h.tail
    obtain ⟨k, hk, hp, _, _⟩ := place_at h.head.1 ha
    unfold lstV at ih ⊢
    rw [scoV_cons, scoV_cons, allV_cons, hp]
    unfold vetW
    simp only [Int.toNat_natCast]
    by_cases e : k + 1 = n
    · rw [if_neg (by omega), if_pos e]
      unfold vetW at ih
      omega
    · rw [if_pos (by omega), if_neg e]
      unfold vetW at ih
      omega

set_option maxRecDepth 100000 in
theorem zeros_own {P : Program} (w : World) (t tn ty e : TypeId) (i : TypeInfo) (z : Value) (size bytes : Nat) (kn : IntKind) (ht : P.underlying t = some (.slice e)) (htn : P.underlying tn = some (.int kn)) (hi : P.info? e = some i) (hz : i.zero = some z)
    (hsize : i.size = size) (hby : i.bytes = bytes) (hzs : z.cells.size = size) (hsz : 0 < size) (n : Nat) (h0 : 0 < n) (hn : n ≤ 2000000) (hb : bytes ≤ 1000) :
    ∃ c w', (Builtin.append_ #[t, tn] ty #[.slice none 0 0, .int .i64 n]).run P w = .ok (.slice (some ⟨w.heap.size, 0, none⟩) n c) w' ∧ w'.ownsRow w.heap.size e size (.slice (some ⟨w.heap.size, 0, none⟩) 0 c) 0 [] ∧ Ext w w' ∧ 0 < c := by
  subst hsize
  subst hby
  have hbb : n * i.bytes ≤ 2000000 * 1000 := Nat.mul_le_mul hn hb
  have hr := Lib.run_append_nil_zeros (P := P) w t tn ty e i z .i64 kn ht htn hi hz n h0 hsz (by omega) (by omega)
  have hge := grownCap_ge w n 0 e
  refine ⟨_, _, hr, ?_, (Ext.refl w).drew.alloc _, by omega⟩
  have hs : (Builtin.zeroCells z.cells n ++ Builtin.zeroCells z.cells (grownCap w n 0 e - n)).size = grownCap w n 0 e * i.size := by
    rw [Array.size_append, size_zeroCells, size_zeroCells, hzs, ← Nat.add_mul]
    congr 1; omega
  exact World.ownsRow_made (base := w.heap.size) w.drew _ _ (Nat.le_refl _) (grownCap_le_maxLen w n 0 e (by unfold maxLen; omega)) hs

set_option maxRecDepth 100000 in
set_option maxHeartbeats 1000000 in
theorem grow_impl (w : World) (n : Nat) (hn : n ≤ 2000000) :
    Calls Try.prog 95 #[.slice none 0 0, .int .i64 n] w fun e w' => ∃ v, e = .returned v ∧ OwnI w' w.heap.size v [] ∧ Ext w w' := by
  obtain ⟨i0, hi, hz0, hz1, hz2⟩ := info_parts info_int
  by_cases h0 : n = 0
  · subst h0
    go_enter Try.func95, Try.ntmps95
    go_wp2
    go_ret
    exact ⟨_, rfl, OwnI.nil _ _, Ext.refl _⟩
  · obtain ⟨c, w', hr, hO, hE, hc⟩ := zeros_own (P := Try.prog) w 31 3 31 3 i0 (.int .i64 0) 1 8 .i64 Try.underlying31 Try.underlying3 hi hz0 hz1 hz2 rfl (by decide) n (by omega) hn (by decide)
    have hc0 : c ≠ 0 := by omega
    have hn0 : (0 : Int) < n := by omega
    have HR := hide hr
    clear hr
    go_enter Try.func95, Try.ntmps95
    go_wp2_with (at_builtin; refine Lib.wpList_append_run _ rfl _ _ _ _ rfl _ _ rfl rfl _ _ HR.out ?_)
    go_ret
    exact ⟨_, rfl, hO, hE⟩

set_option maxRecDepth 100000 in
set_option maxHeartbeats 4000000 in
theorem cat_impl (w : World) (g : Nat) (a1 a2 : Option Addr) (c1 c2 : Nat) (xs ys : List Int) (c0 : w.cell? ⟨g, 0, none⟩ = some (.slice a1 xs.length c1)) (c1' : w.cell? ⟨g, 1, none⟩ = some (.slice a2 ys.length c2))
    (hR1 : RdI w a1 xs) (hR2 : RdI w a2 ys) (hl : xs.length + ys.length ≤ 1000) :
    Calls Try.prog 87 #[.slice (some ⟨g, 0, none⟩) 2 2] w fun e w' => ∃ v, e = .returned v ∧ OwnI w' w.heap.size v (xs ++ ys) ∧ Ext w w' := by
  have h1 := c0
  have h2 := c1'
  have y1 : wrap64 (0 + (xs.length : Int)) = (xs.length : Int) := by rw [IntWalk.wrap64_in _ (by omega)]; omega
  have y2 : wrap64 ((xs.length : Int) + (ys.length : Int)) = (xs.length : Int) + (ys.length : Int) := IntWalk.wrap64_in _ (by omega)
  have z1 : ¬ ((xs.length : Int) < 0) := by omega
  have z2 : ¬ ((xs.length : Int) + (ys.length : Int) < 0) := by omega
  go_enter Try.func87, Try.ntmps87
  go_wp2_with fail
  go_loopw [3, 5, 11] (fun s _ i wr => ((i = .int .i64 0 ∧ s = .int .i64 0) ∨ (i = .int .i64 1 ∧ s = .int .i64 xs.length) ∨ (i = .int .i64 2 ∧ s = .int .i64 ((xs.length : Int) + (ys.length : Int)))) ∧ wr = w) (fun _ _ i _ => 2 - (intOf i).toNat)
  case atStart => exact ⟨.inl ⟨rfl, rfl⟩, rfl⟩
  case round =>
    obtain ⟨⟨rfl, rfl⟩ | ⟨rfl, rfl⟩ | ⟨rfl, rfl⟩, rfl⟩ := hrel
    · go_wp2
      exact ⟨⟨.inr (.inl ⟨rfl, rfl⟩), trivial⟩, by simp [intOf]⟩
    · go_wp2
      exact ⟨⟨.inr (.inr ⟨rfl, rfl⟩), trivial⟩, by simp [intOf]⟩
    · obtain ⟨wo, hwo⟩ : ∃ wo : World, wo = wr := ⟨_, rfl⟩
      subst hwo
      have hg := grow_impl wo (xs.length + ys.length) (by omega)
      rw [Int.natCast_add] at hg
      have HG := hide hg
      clear hg
      go_wp2_with fail
      refine HG.out.mono ?_
      rintro e w1 ⟨v, rfl, hO, hw1⟩
      have h1 := hw1.keep h1
      have h2 := hw1.keep h2
      go_wp2_with fail
      go_loopw [6, 8, 27] (fun v _ i wq => ((i = .int .i64 0 ∧ OwnI wq wo.heap.size v []) ∨ (i = .int .i64 1 ∧ OwnI wq wo.heap.size v xs) ∨ (i = .int .i64 2 ∧ OwnI wq wo.heap.size v (xs ++ ys))) ∧ Ext wo wq ∧ wq.cell? ⟨g, 0, none⟩ = some (.slice a1 xs.length c1) ∧ wq.cell? ⟨g, 1, none⟩ = some (.slice a2 ys.length c2)) (fun _ _ i _ => 2 - (intOf i).toNat)
      case atStart => exact ⟨.inl ⟨rfl, hO⟩, hw1, h1, h2⟩
      case round =>
        clear hO hw1 h1 h2
        obtain ⟨⟨rfl, hO⟩ | ⟨rfl, hO⟩ | ⟨rfl, hO⟩, hw, h1, h2⟩ := hrel
        · go_wp2_with (at_builtin; go_loud (refine wpList_appG wo.heap.size _ rfl _ _ rfl _ [] xs rfl (by exact hO) hw.size a1 xs.length c1 rfl rfl (hR1.ext hw) (by simp; omega) ?_); intro v1 w2 hO1 hg1 _)
          have hE := Ext.grown hw hg1 (ownsRow_block hO)
          exact ⟨⟨.inr (.inl ⟨rfl, hO1⟩), hE, hE.keep c0, hE.keep c1'⟩, by simp [intOf]⟩
        · go_wp2_with (at_builtin; go_loud (refine wpList_appG wo.heap.size _ rfl _ _ rfl _ xs ys rfl (by exact hO) hw.size a2 ys.length c2 rfl rfl (hR2.ext hw) (by omega) ?_); intro v1 w2 hO1 hg1 _)
          have hE := Ext.grown hw hg1 (ownsRow_block hO)
          exact ⟨⟨.inr (.inr ⟨rfl, hO1⟩), hE, hE.keep c0, hE.keep c1'⟩, by simp [intOf]⟩
        · go_wp2
          go_ret
          exact ⟨_, rfl, hO, hw⟩

set_option maxRecDepth 100000 in
theorem wpList_appSF {ops : Array Oper} {rest : List Oper} {o : Oper} {a : Act} {Q : Exit → Act → World → Prop} (W0 w0 w3 : World) (hgd : o.guard = none) (s x : Operand)
    (ho : o.op = .call { callee := .builtin .append, args := #[s, x], argTypes := #[35, 35] }) (v : Value) (xss : List (List Int)) (u : Value) (xs : List Int) (hs : a.eval s = v)
    (hown : OwnSS w0 W0.heap.size v xss) (hW0 : Ext W0 w0) (hw : Ext w0 w3) (hu : OwnI w3 w0.heap.size u xs)
    (hx : a.eval x = .slice (some ⟨w3.heap.size, 0, none⟩) 1 1) (hlen : xss.length ≤ 2000000)
    (h : ∀ v' w', OwnSS w' W0.heap.size v' (xss ++ [xs]) → Ext W0 w' → w3.grownBy w' v.ownBlock → Fresh w3 v v' → wpList Try.prog ops Q rest (a.put o.dst v') w') : wpList Try.prog ops Q (o :: rest) a (w3.alloc (.cells #[u] 31)) := by
  obtain ⟨i0, hi, hz0, hz1, hz2⟩ := info_parts info_row
  obtain ⟨cs, h1, h2, h3, h4⟩ := hown
  have h1a := ownsRow_ext h1 (hw.alloc (.cells #[u] 31))
  have hW3 : Ext W0 (w3.alloc (.cells #[u] 31)) := (hW0.trans hw).alloc _
  obtain ⟨v', w', hr, h5, h6, hfr⟩ := run_append_fresh (P := Try.prog) (w3.alloc (.cells #[u] 31)) W0.heap.size 35 o.type 31 i0 (.slice none 0 0) 1 24 Try.underlying35 hi hz0 hz1 hz2 rfl (by decide) v cs.length _ h1a ⟨w3.heap.size, 0, none⟩ 1 1 [u] rfl
    (fun j z hj => by
      match j, hj with
      | 0, hj => simp at hj; subst hj; simp [Addr.add])
    (fun z hz => by simp at hz; subst hz; exact hu.slice) (by decide) (by unfold maxLen; omega) (by omega) hW3.size
  refine wpList_plain hgd fun K hK => ?_
  unfold Oper.wp execOp
  simp only [ho, resolve, invoke, builtin, Sem.run_bind, Sem.run_pure, Result.andThen_ok, List.map_toArray, List.map_cons, List.map_nil, hs, hx, hr]
  refine hK _ _ ?_
  · have hgz : w3.grownBy w' v.ownBlock := ⟨h6.os, h6.tape, h6.output, Nat.le_trans (by simp) h6.size, fun k hk hne => (h6.block k (by simp; omega) hne).trans (Below.block (Ext.new w3 (.cells #[u] 31)) k hk)⟩
    have hfz : Fresh w3 v v' := by
      rcases hfr with hfr | hfr
      · exact .inl hfr
      · exact .inr (fun k hk => by have := hfr k hk; simp at this; omega)
    have huw := hu.ext (Ext.new w3 (.cells #[u] 31))
    refine h v' w' ⟨cs ++ [u], by simpa using h5, by simp [h2], fun j ys hy => ?_, fun i j z z' k hne hz hz' hk => ?_⟩ (hW3.grown h6 (ownsRow_block h1a)) hgz hfz
    · rcases Nat.lt_or_ge j xss.length with hlt | hge
      · rw [List.getElem?_append_left hlt] at hy
        obtain ⟨z, hz, hO⟩ := h3 j ys hy
        refine ⟨z, by rw [List.getElem?_append_left (by omega)]; exact hz, ?_⟩
        have hO' := hO.ext (hw.alloc (.cells #[u] 31))
        exact hO'.keepRow h6 (own_ne' hO' h1a)
      · rw [List.getElem?_append_right hge] at hy
        have hj : j - xss.length = 0 := by have := lt_of_at hy; simp at this; omega
        rw [hj] at hy
        simp at hy
        subst hy
        refine ⟨u, by rw [List.getElem?_append_right (by omega), h2, hj]; rfl, ?_⟩
        exact (huw.keepRow h6 (own_ne' huw h1a)).base hW0.size
    · have low : ∀ (i : Nat) (z : Value) (k : Nat), cs[i]? = some z → z.ownBlock = some k → k < w0.heap.size := fun i z k hz hk => by
        obtain ⟨ys, hy⟩ := at_of_lt (xs := xss) (k := i) (by have := lt_of_at hz; omega)
        obtain ⟨z', hz', hO⟩ := h3 i ys hy
        rw [hz] at hz'
        injection hz' with hz'
        subst hz'
        exact (World.ownsRow.lt hO k hk).2
      have new : ∀ k, u.ownBlock = some k → w0.heap.size ≤ k := fun k hk => (World.ownsRow.lt hu k hk).1
      rcases Nat.lt_or_ge i cs.length with hil | hil
      · rw [List.getElem?_append_left hil] at hz
        rcases Nat.lt_or_ge j cs.length with hjl | hjl
        · rw [List.getElem?_append_left hjl] at hz'
          exact h4 i j z z' k hne hz hz' hk
        · rw [List.getElem?_append_right hjl] at hz'
          have hj : j - cs.length = 0 := by have := lt_of_at hz'; simp at this; omega
          rw [hj] at hz'
          simp at hz'
          subst hz'
          intro e
          have := low i z k hz hk
          have := new k e
          omega
      · rw [List.getElem?_append_right hil] at hz
        have hi0 : i - cs.length = 0 := by have := lt_of_at hz; simp at this; omega
        rw [hi0] at hz
        simp at hz
        subst hz
        rcases Nat.lt_or_ge j cs.length with hjl | hjl
        · rw [List.getElem?_append_left hjl] at hz'
          intro e
          have := low j z' k hz' e
          have := new k hk
          omega
        · rw [List.getElem?_append_right hjl] at hz'
          have hj0 : j - cs.length = 0 := by have := lt_of_at hz'; simp at this; omega
          omega

set_option maxRecDepth 100000 in
theorem grown_next {w wr w' : World} {v vr v' : Value} (h : w.grownBy wr v.ownBlock) (hf : Fresh w v vr) (h2 : wr.grownBy w' vr.ownBlock) (hf2 : Fresh wr vr v') : w.grownBy w' v.ownBlock ∧ Fresh w v v' := by
  have hs := h.size
  refine ⟨⟨h2.os.trans h.os, h2.tape.trans h.tape, h2.output.trans h.output, Nat.le_trans h.size h2.size, fun k hk hne => ?_⟩, ?_⟩
  · refine (h2.block k (by omega) (fun e => ?_)).trans (h.block k hk hne)
    rcases hf with hf | hf
    · exact hne (by rw [← hf]; exact e)
    · have := hf k e.symm; omega
  · rcases hf2 with hf2 | hf2
    · rcases hf with hf | hf
      · exact .inl (hf2.trans hf)
      · exact .inr (fun k hk => hf k (by rw [← hf2]; exact hk))
    · exact .inr (fun k hk => by have := hf2 k hk; omega)
set_option maxRecDepth 100000 in
theorem place_in {xs : List Int} {a : Int} : placeI xs a < 0 ↔ a ∉ xs := by
  have h := findI_nonneg (fun y => a == y) xs
  have h1 : (0 ≤ placeI xs a) ↔ a ∈ xs := by
    unfold placeI
    constructor
    · intro h0
      have : xs.any (fun y => a == y) = true := by rw [← h]; simpa using h0
      obtain ⟨y, hy, e⟩ := List.any_eq_true.1 this
      have : a = y := by simpa using e
      rw [this]; exact hy
    · intro hm
      have : xs.any (fun y => a == y) = true := List.any_eq_true.2 ⟨a, hm, by simp⟩
      rw [← h] at this
      simpa using this
  constructor
  · intro h0 hm; have := h1.2 hm; omega
  · intro hm; by_cases h0 : 0 ≤ placeI xs a
    · exact absurd (h1.1 h0) hm
    · omega

/-- What has been drawn of the orders that begin with `pre`, the next one below j. -/
def allTo (n k : Nat) (pre : List Int) (j : Nat) : List (List Int) := (upL j (notIn pre)).flatMap (fun x => allS n k (pre ++ [x]))
set_option maxRecDepth 100000 in
theorem allTo_succ (n k : Nat) (pre : List Int) (j : Nat) : allTo n k pre (j + 1) = allTo n k pre j ++ if notIn pre j then allS n k (pre ++ [(j : Int)]) else [] := by
  unfold allTo
  rw [upL_succ, List.flatMap_append]
  split <;> simp
set_option maxRecDepth 100000 in
theorem allS_len {n : Nat} (n2 : n ≤ 5) : ∀ (k : Nat) (pre : List Int), (allS n k pre).length ≤ 5 ^ k
  | 0, pre => by simp [allS]
  | k + 1, pre => by
    have key : ∀ j, (allTo n k pre j).length ≤ j * 5 ^ k := by
      intro j
      induction j with
      | zero => simp [allTo, upL]
      | succ j ih =>
        rw [allTo_succ, List.length_append, Nat.succ_mul]
        have h := allS_len n2 k (pre ++ [(j : Int)])
        split
        · omega
        · simp; omega
    have h := key n
    have h2 : n * 5 ^ k ≤ 5 * 5 ^ k := Nat.mul_le_mul_right _ n2
    rw [Nat.pow_succ, Nat.mul_comm]
    show (allTo n k pre n).length ≤ _
    omega
set_option maxRecDepth 100000 in
theorem allTo_len {n : Nat} (n2 : n ≤ 5) (k : Nat) (pre : List Int) : ∀ j, (allTo n k pre j).length ≤ j * 5 ^ k := by
  intro j
  induction j with
  | zero => simp [allTo, upL]
  | succ j ih =>
    rw [allTo_succ, List.length_append, Nat.succ_mul]
    have h := allS_len n2 k (pre ++ [(j : Int)])
    split
    · omega
    · simp; omega

set_option maxRecDepth 100000 in
set_option maxHeartbeats 4000000 in
theorem all_spec (n : Nat) (n2 : n ≤ 5) : ∀ (k : Nat) (pre : List Int) (W0 w0 w : World) (out u : Value) (xss : List (List Int)), pre.length + k = n → OwnSS w0 W0.heap.size out xss → Ext W0 w0 → Ext w0 w → OwnI w w0.heap.size u pre → xss.length + 5 ^ k ≤ 10000 →
    Calls Try.prog 97 #[out, u, .int .i64 n] w fun e w' => ∃ v, e = .returned v ∧ OwnSS w' W0.heap.size v (xss ++ allS n k pre) ∧ Ext W0 w' ∧ w.grownBy w' out.ownBlock ∧ Fresh w out v := by
  intro k
  induction k with
  | zero =>
    intro pre W0 w0 w out u xss hk hown hW0 hw hu hb
    obtain ⟨a, c, rfl, hc, hm, hR, _⟩ := hu.val
    have hl : pre.length = n := by omega
    have hl' : ((pre.length : Int) == (n : Int)) = true := by simp; omega
    have hb2 : xss.length ≤ 2000000 := by omega
    have HL := hide hl
    clear hl hk
    go_enter Try.func97, Try.ntmps97
    go_wp2_with (at_builtin; refine wpList_appSF W0 w0 _ rfl _ _ rfl _ xss _ pre rfl (by exact hown) hW0 hw (by exact hu) rfl hb2 ?_; intro v' w3 h1 h2 h3 h4)
    go_ret
    exact ⟨_, rfl, h1, h2, h3, h4⟩
  | succ k ih =>
    intro pre W0 w0 w out u xss hk hown hW0 hw hu hb
    obtain ⟨a, c, rfl, hc, hm, hR, _⟩ := hu.val
    have hl' : ((pre.length : Int) == (n : Int)) = false := by simp; omega
    have hpl : pre.length ≤ 5 := by omega
    have IH := hide ih
    have HK := hide hk
    have hb1 : xss.length + 5 * 5 ^ k ≤ 10000 := by rw [Nat.pow_succ, Nat.mul_comm] at hb; exact hb
    have HB := hide hb1
    have HO := hide hown
    clear ih hk hb hb1
    go_enter Try.func97, Try.ntmps97
    go_wp2_with fail
    go_loopw [0, 7] (fun v i wr => ∃ j : Nat, j ≤ n ∧ i = .int .i64 j ∧ OwnSS wr W0.heap.size v (xss ++ allTo n k pre j) ∧ Ext W0 wr ∧ w.grownBy wr out.ownBlock ∧ Hid (Fresh w out v)) (fun _ i _ => n - (intOf i).toNat)
    case atStart =>
      have h := hown.ext hw
      exact ⟨0, Nat.zero_le _, rfl, by simpa [allTo, upL] using h, hW0.trans hw, ⟨rfl, rfl, rfl, Nat.le_refl _, fun _ _ _ => rfl⟩, .inl rfl⟩
    case round =>
      obtain ⟨j, hj, rfl, hown2, hW, hg, hf⟩ := hrel
      by_cases hjt : j < n
      · obtain ⟨cs, hcs, _⟩ := HO.out
        have hu2 := hu.keepRow hg (own_ne' hu (ownsRow_ext hcs hw))
        have hR2 := hu2.rdI
        have hlen := allTo_len n2 k pre j
        clear hcs
        by_cases hp : placeI pre (j : Int) < 0
        · go_wp2_with fail
          refine (place_spec _ _ _ _ _ hR2 (by omega)).mono ?_
          rintro e w1 ⟨rfl, hw1⟩
          have hO := OwnI.made0 w1
          have hE1 : Ext wr (w1.alloc (.cells #[] 3)) := hw1.alloc _
          go_wp2_with (first
            | (at_builtin; refine wpList_appG w1.heap.size _ rfl _ _ rfl _ [] pre rfl (by exact hO) (by simp) a pre.length c rfl rfl (hR2.ext hE1) (by simp; omega) ?_; intro v1 w2 hO1 hg1 _; have hE2 : Ext wr w2 := Ext.grown hE1 hg1 (fun k hk => by have hk2 : (some w1.heap.size : Option Nat) = some k := hk; injection hk2 with hk2; have := hw1.size; omega); have hO1 := hO1.base hw1.size)
            | (at_builtin; refine wpList_appI wr _ rfl _ _ rfl _ pre _ rfl (by exact hO1) hE2 rfl (by omega) ?_; intro v2 w3 hO2 hE3))
          have hbl : (xss ++ allTo n k pre j).length + 5 ^ k ≤ 10000 := by
            have h1 := HB.out
            have h2 : j * 5 ^ k ≤ 4 * 5 ^ k := Nat.mul_le_mul_right _ (by omega)
            rw [List.length_append]; omega
          refine (IH.out (pre ++ [(j : Int)]) W0 wr w3 u0 v2 _ (by have := HK.out; simp; omega) hown2 hW hE3 hO2 hbl).mono ?_
          rintro e w4 ⟨v4, rfl, hO4, hE4, hg4, hf4⟩
          have hn := grown_next (grown_ext hg hE3) hf.out hg4 hf4
          have hno : notIn pre j = true := by
            unfold notIn
            cases h : hasI pre (j : Int)
            · rfl
            · exact absurd (hasI_iff.1 h) (place_in.1 hp)
          clear hO hO1 hg1 hE1 hE2 hO2 hg4 hf4
          go_wp2
          exact ⟨⟨j + 1, by omega, by go_num, by rw [allTo_succ, hno, ← List.append_assoc]; exact hO4, hE4, hn.1, hn.2⟩, by simp [intOf]; omega⟩
        · go_wp2_with fail
          refine (place_spec _ _ _ _ _ hR2 (by omega)).mono ?_
          rintro e w1 ⟨rfl, hw1⟩
          have hno : notIn pre j = false := by
            unfold notIn
            cases h : hasI pre (j : Int)
            · exact absurd (place_in.2 (fun hm => by rw [hasI_iff.2 hm] at h; cases h)) (by omega)
            · rfl
          go_wp2
          exact ⟨⟨j + 1, by omega, by go_num, by rw [allTo_succ, hno]; simpa using hown2.ext hw1, hW.trans hw1, grown_ext hg hw1, hf⟩, by simp [intOf]; omega⟩
      · have hjn : j = n := by omega
        go_wp2
        go_ret
        rw [hjn] at hown2
        exact ⟨_, rfl, hown2, hW, hg, hf.out⟩

set_option maxRecDepth 100000 in
set_option maxHeartbeats 1000000 in
theorem allR_spec (w : World) (n : Nat) (n1 : 1 ≤ n) (n2 : n ≤ 5) :
    Calls Try.prog 89 #[.int .i64 n] w fun e w' => ∃ v, e = .returned v ∧ OwnSS w' w.heap.size v (allO n) ∧ Ext w w' := by
  have hin : inR (n : Int) 1 5 = true := inR_iff.2 (by omega)
  have h5 : 5 ^ n ≤ 3125 := Nat.pow_le_pow_right (n := 5) (by decide) n2
  go_enter Try.func89, Try.ntmps89
  go_wp2_with (go_at_call 96; refine (in_spec _ _ _ _).mono ?_; rintro e w1 ⟨rfl, hw1⟩)
  have hb : ([] : List (List Int)).length + 5 ^ n ≤ 10000 := by rw [List.length_nil]; omega
  have h1 := OwnSS.made0 w1
  have h2 := Ext.new w1 (.cells #[] 31)
  have hs : (w1.alloc (.cells #[] 31)).heap.size = w1.heap.size + 1 := by simp
  generalize w1.alloc (.cells #[] 31) = w2 at h1 h2 hs ⊢
  have h3 := OwnI.made0 w2
  have h4 := Ext.new w2 (.cells #[] 3)
  generalize w2.alloc (.cells #[] 3) = w3 at h3 h4 ⊢
  have h3 : OwnI w3 w2.heap.size (.slice (some ⟨w1.heap.size + 1, 0, none⟩) 0 0) [] := by rw [← hs]; exact h3
  have h := all_spec n n2 n [] w1 w2 w3 _ _ [] (Nat.zero_add n) h1 h2 h4 h3 hb
  refine h.mono ?_
  rintro e w4 ⟨v, rfl, hO, hE, _, _⟩
  rw [List.nil_append] at hO
  go_wp2
  go_ret
  exact ⟨_, rfl, hO.base hw1.size, hw1.trans hE⟩

end Go.Proofs.Ytkbbcglghfddjaa
