/- Rankings: all of them stand in the list of all rankings; the one in which each beats all behind it (plain law). Pairs of a ranking that are turned, counted by the program. Condorcet winner and loser, the unbeaten: both sides. -/
import Derived.Test.YtkbbcglghfddjaaCg12
import Derived.Test.YtkbbcglghfddjaaCg7
import Derived.Test.YtkbbcglghfddjaaCg10
namespace Go.Proofs.Ytkbbcglghfddjaa
open Go.RowKit

set_option maxRecDepth 100000 in
theorem leftL_snoc {n : Nat} {out : List Int} {x y : Int} : y ∈ leftL n (out ++ [x]) ↔ y ∈ leftL n out ∧ y ≠ x := by
  rw [leftL_mem, leftL_mem]
  constructor
  · rintro ⟨i, hi, hn, rfl⟩
    rw [List.mem_append] at hn
    exact ⟨⟨i, hi, fun h => hn (.inl h), rfl⟩, fun h => hn (.inr (by simp [h]))⟩
  · rintro ⟨⟨i, hi, hn, rfl⟩, hne⟩
    refine ⟨i, hi, fun h => ?_, rfl⟩
    rcases List.mem_append.1 h with h | h
    · exact hn h
    · simp at h; exact hne h
set_option maxRecDepth 100000 in
theorem leftL_drop {n : Nat} {out : List Int} {x : Int} (h : x ∈ leftL n out) : (leftL n (out ++ [x])).length + 1 = (leftL n out).length := by
  obtain ⟨i, hi⟩ := List.mem_iff_getElem?.1 h
  have hlt := lt_of_at hi
  rw [← leftL_erase hi, List.length_eraseIdx, if_pos hlt]
  omega
set_option maxRecDepth 100000 in
theorem allS_mem (n : Nat) : ∀ (k : Nat) (pre : List Int), (leftL n pre).length = k → ∀ r : List Int, r ∈ allS n k pre ↔ ∃ s : List Int, r = pre ++ s ∧ s.Nodup ∧ s.length = k ∧ ∀ x ∈ s, x ∈ leftL n pre
  | 0, pre, _, r => by
    simp only [allS, List.mem_singleton]
    constructor
    · rintro rfl; exact ⟨[], by simp, List.nodup_nil, rfl, fun x h => by simp at h⟩
    · rintro ⟨s, rfl, _, hl, _⟩
      have : s = [] := List.length_eq_zero_iff.1 hl
      subst this; simp
  | k + 1, pre, hl, r => by
    rw [allS, List.mem_flatMap]
    constructor
    · rintro ⟨x, hx, hr⟩
      have hd := leftL_drop hx
      obtain ⟨s, rfl, hs1, hs2, hs3⟩ := (allS_mem n k (pre ++ [x]) (by omega) r).1 hr
      refine ⟨x :: s, by simp, List.nodup_cons.2 ⟨fun h => (leftL_snoc.1 (hs3 x h)).2 rfl, hs1⟩, by simp [hs2], fun y hy => ?_⟩
      rcases List.mem_cons.1 hy with rfl | hy
      · exact hx
      · exact (leftL_snoc.1 (hs3 y hy)).1
    · rintro ⟨s, rfl, hs1, hs2, hs3⟩
      cases s with
      | nil => simp at hs2
      | cons x s =>
        have hx := hs3 x (by simp)
        have hd := leftL_drop hx
        rw [List.nodup_cons] at hs1
        refine ⟨x, hx, (allS_mem n k (pre ++ [x]) (by omega) _).2 ⟨s, by simp, hs1.2, by simpa using hs2, fun y hy => leftL_snoc.2 ⟨hs3 y (by simp [hy]), ?_⟩⟩⟩
        rintro rfl; exact hs1.1 hy
set_option maxRecDepth 100000 in
theorem allO_mem {n : Nat} (n1 : 1 ≤ n) (n2 : n ≤ 5) {r : List Int} : r ∈ allO n ↔ rkOk n r = true := by
  unfold allO
  rw [allS_mem n n [] (by rw [leftL_nil, upL_true_len])]
  have hin : inR (n : Int) 1 5 = true := inR_iff.2 (by omega)
  constructor
  · rintro ⟨s, rfl, h1, h2, h3⟩
    simp only [rkOk, hin, Bool.true_and, Bool.and_eq_true, decide_eq_true_eq, List.all_eq_true]
    refine ⟨by omega, fun x hx => ?_, h1⟩
    obtain ⟨i, hi, _, rfl⟩ := leftL_mem.1 (h3 x hx)
    rw [inR_iff]; omega
  · intro h
    have h1 := rk_nodup h
    have h2 := (rk_len h).1
    refine ⟨r, by simp, h1, by omega, fun x hx => ?_⟩
    have h3 := rk_mem h hx
    exact leftL_mem.2 ⟨x.toNat, by omega, by simp, by omega⟩
set_option maxRecDepth 100000 in
theorem allO_ne {n : Nat} (n1 : 1 ≤ n) (n2 : n ≤ 5) : ∃ r, r ∈ allO n := by
  refine ⟨upL n (fun _ => true), (allO_mem n1 n2).2 ?_⟩
  have hin : inR (n : Int) 1 5 = true := inR_iff.2 (by omega)
  simp only [rkOk, hin, Bool.true_and, Bool.and_eq_true, decide_eq_true_eq, List.all_eq_true]
  refine ⟨by rw [upL_true_len], fun x hx => ?_, upL_nodup _ _⟩
  obtain ⟨i, hi, _, rfl⟩ := upL_mem.1 hx
  rw [inR_iff]; omega
set_option maxRecDepth 100000 in
/-- A ranking holds the candidates, in its order. -/
theorem rk_perm {n : Nat} {r : List Int} (h : rkOk n r = true) : r.Perm (upL n (fun _ => true)) := by
  rw [List.perm_ext_iff_of_nodup (rk_nodup h) (upL_nodup _ _)]
  intro x
  rw [upL_mem]
  constructor
  · intro hx
    have := rk_mem h hx
    exact ⟨x.toNat, by omega, rfl, by omega⟩
  · rintro ⟨i, hi, _, rfl⟩
    exact rk_all h hi
set_option maxRecDepth 100000 in
theorem cntN_perm {n : Nat} {r : List Int} (h : rkOk n r = true) (p : Int → Bool) : cntN n (fun j => p j) = r.countP p := by
  rw [(rk_perm h).countP_eq]
  unfold cntN upL
  rw [List.filter_eq_self.2 (fun _ _ => rfl), List.countP_map]
  rfl

/-- Each beats all that stand behind it. -/
def mjQ (vs : List Vt) (y x : Int) : Bool := !beatsV vs x y
def mjOk (vs : List Vt) (r : List Int) : Bool := decide (bkI (mjQ vs) r = 0)
set_option maxRecDepth 100000 in
theorem mjOk_iff {vs : List Vt} {r : List Int} : mjOk vs r = true ↔ r.Pairwise (fun x y => beatsV vs x y = true) := by
  unfold mjOk
  rw [decide_eq_true_iff, bkI_zero]
  have : (fun x y => mjQ vs y x = false) = (fun x y => beatsV vs x y = true) := by
    funext x y; simp [mjQ]
  rw [this]
def mjO (n : Nat) (vs : List Vt) : Option (List Int) := (allO n).find? (mjOk vs)

set_option maxRecDepth 100000 in
theorem beatsV_anti {vs : List Vt} {x y : Int} (h : beatsV vs x y = true) : beatsV vs y x = false := by
  unfold beatsV at *
  simp only [decide_eq_true_eq, decide_eq_false_iff_not] at *
  omega
set_option maxRecDepth 100000 in
theorem beatsV_self (vs : List Vt) (x : Int) : beatsV vs x x = false := by simp [beatsV]
set_option maxRecDepth 100000 in
/-- In such a ranking the one at place i beats all but i + 1. -/
theorem mj_count {vs : List Vt} : ∀ {r : List Int} {i : Nat} {x : Int}, r.Pairwise (fun x y => beatsV vs x y = true) → r[i]? = some x → r.countP (fun y => beatsV vs x y) + (i + 1) = r.length
  | [], i, x, _, h => by simp at h
  | z :: zs, 0, x, hp, h => by
    simp at h
    subst h
    rw [List.pairwise_cons] at hp
    have : zs.countP (fun y => beatsV vs z y) = zs.length := List.countP_eq_length.2 (fun y hy => hp.1 y hy)
    rw [List.countP_cons, beatsV_self, this]
    simp
  | z :: zs, i + 1, x, hp, h => by
    rw [List.pairwise_cons] at hp
    simp only [List.getElem?_cons_succ] at h
    have ih := mj_count hp.2 h
    have hz := beatsV_anti (hp.1 x (List.mem_of_getElem? h))
    rw [List.countP_cons, hz, List.length_cons]
    simp; omega
set_option maxRecDepth 100000 in
theorem ups_at {n : Nat} {vs : List Vt} {r : List Int} (h : rkOk n r = true) (hp : mjOk vs r = true) {i : Nat} {x : Int} (hx : r[i]? = some x) : ∃ a : Nat, x = a ∧ a < n ∧ (upsL n vs)[a]? = some (((n - 1 - i : Nat)) : Int) := by
  have hm := rk_mem h (List.mem_of_getElem? hx)
  have hl := (rk_len h).1
  have hi := lt_of_at hx
  refine ⟨x.toNat, by omega, by omega, ?_⟩
  have hc := mj_count (mjOk_iff.1 hp) hx
  have hcn := cntN_perm h (fun y => beatsV vs x y)
  have e : (bt vs x.toNat) = (fun j : Nat => beatsV vs x (j : Int)) := by
    funext j
    unfold bt
    rw [show ((x.toNat : Nat) : Int) = x by omega]
  unfold upsL
  rw [rowL_at (show x.toNat < n by omega), e, hcn]
  congr 1
  omega
/-- The spec's candidate for that ranking. -/
def mjS (n : Nat) (vs : List Vt) : List Int := rowL n (fun i => placeI (upsL n vs) ((n : Int) - 1 - i))
set_option maxRecDepth 100000 in
theorem mjS_eq {n : Nat} {vs : List Vt} {r : List Int} (h : rkOk n r = true) (hp : mjOk vs r = true) : mjS n vs = r := by
  have hl := (rk_len h).1
  refine List.ext_getElem? (fun i => ?_)
  by_cases hi : i < n
  · obtain ⟨x, hx⟩ := at_of_lt (xs := r) (k := i) (by omega)
    rw [hx]
    unfold mjS
    rw [rowL_at hi]
    obtain ⟨a, rfl, ha, hat⟩ := ups_at h hp hx
    congr 1
    have e : ((n : Int) - 1 - (i : Int)) = ((n - 1 - i : Nat) : Int) := by omega
    unfold placeI
    rw [e]
    refine findI_some hat ?_ (by simp)
    rw [List.all_eq_true]
    intro y hy
    obtain ⟨b, hb⟩ := List.mem_iff_getElem?.1 hy
    have hba : b < a := by have := lt_of_at hb; rw [List.length_take] at this; omega
    rw [List.getElem?_take_of_lt hba] at hb
    obtain ⟨j, hj, _, hjb, _⟩ := place_at h (a := b) (by omega)
    obtain ⟨b', hb', _, hbt⟩ := ups_at h hp hjb
    have : b' = b := by omega
    subst this
    rw [hb] at hbt
    injection hbt with hbt
    have hne : j ≠ i := fun e => by subst e; rw [hx] at hjb; injection hjb with hjb; omega
    rw [hbt]
    have : (((n - 1 - i : Nat) : Int) == ((n - 1 - j : Nat) : Int)) = false := by
      rw [beq_eq_false_iff_ne]; omega
    rw [this]; rfl
  · have h1 : (mjS n vs)[i]? = none := List.getElem?_eq_none (by unfold mjS; rw [rowL_len]; omega)
    have h2 : r[i]? = none := List.getElem?_eq_none (by omega)
    rw [h1, h2]
set_option maxRecDepth 100000 in
theorem mjS_ok {n : Nat} {vs : List Vt} (n1 : 1 ≤ n) (n2 : n ≤ 5) (h : ∀ i : Nat, i < n → 0 ≤ placeI (upsL n vs) ((n : Int) - 1 - i)) : rkOk n (mjS n vs) = true := by
  have hin : inR (n : Int) 1 5 = true := inR_iff.2 (by omega)
  have hpl : ∀ v : Int, 0 ≤ placeI (upsL n vs) v → (upsL n vs)[(placeI (upsL n vs) v).toNat]? = some v ∧ placeI (upsL n vs) v < n := by
    intro v hv
    unfold placeI findI at hv ⊢
    split at hv
    · rename_i k hk
      rw [List.findIdx?_eq_some_iff_getElem] at hk
      obtain ⟨h1, h2, _⟩ := hk
      have h3 : v = (upsL n vs)[k] := by simpa using h2
      have h4 : (upsL n vs).length = n := rowL_len _ _
      refine ⟨?_, by omega⟩
      rw [Int.toNat_natCast, List.getElem?_eq_getElem h1, ← h3]
    · omega
  simp only [rkOk, hin, Bool.true_and, Bool.and_eq_true, decide_eq_true_eq, List.all_eq_true]
  refine ⟨by unfold mjS; rw [rowL_len], fun x hx => ?_, ?_⟩
  · obtain ⟨i, hi⟩ := List.mem_iff_getElem?.1 hx
    obtain ⟨hj, rfl⟩ := rowL_val hi
    have h1 := h i hj
    have h2 := (hpl _ h1).2
    rw [inR_iff]; omega
  · unfold mjS rowL
    refine List.Pairwise.map _ (fun a b hab => ?_) (List.pairwise_lt_range.imp_of_mem (fun ha hb hlt => (⟨hlt, List.mem_range.1 ha, List.mem_range.1 hb⟩ : _ ∧ _ ∧ _)))
    obtain ⟨hlt, ha, hb⟩ := hab
    intro e
    have h1 := (hpl _ (h a ha)).1
    have h2 := (hpl _ (h b hb)).1
    rw [e, h2] at h1
    injection h1 with h1
    omega
set_option maxRecDepth 100000 in
/-- The program's answer, as the spec finds it. -/
theorem mj_eq {n : Nat} {vs : List Vt} (n1 : 1 ≤ n) (n2 : n ≤ 5) : mjO n vs = if (∀ i : Nat, i < n → 0 ≤ placeI (upsL n vs) ((n : Int) - 1 - i)) ∧ mjOk vs (mjS n vs) = true then some (mjS n vs) else none := by
  unfold mjO
  cases hf : (allO n).find? (mjOk vs) with
  | none =>
    rw [List.find?_eq_none] at hf
    rw [if_neg]
    rintro ⟨h1, h2⟩
    exact hf _ ((allO_mem n1 n2).2 (mjS_ok n1 n2 h1)) h2
  | some r =>
    have hr := List.find?_some hf
    have hm := (allO_mem n1 n2).1 (List.mem_of_find?_eq_some hf)
    have he := mjS_eq hm hr
    have hlen := (rk_len hm).1
    have h1 : ∀ i : Nat, i < n → 0 ≤ placeI (upsL n vs) ((n : Int) - 1 - i) := fun i hi => by
      obtain ⟨x, hx⟩ := at_of_lt (xs := r) (k := i) (by omega)
      have := rk_mem hm (List.mem_of_getElem? hx)
      rw [← he] at hx
      unfold mjS at hx
      rw [rowL_at hi] at hx
      injection hx with hx
      omega
    rw [if_pos ⟨h1, by rw [he]; exact hr⟩, he]
set_option maxRecDepth 100000 in
/-- The spec's test of the pairs. -/
theorem mj_not {vs : List Vt} {r : List Int} {i j : Nat} {x y : Int} (hij : i < j) (hx : r[i]? = some x) (hy : r[j]? = some y) (hb : beatsV vs x y = false) : mjOk vs r = false := by
  cases h : mjOk vs r
  · rfl
  · have h1 := mjOk_iff.1 h
    have l1 := lt_of_at hx
    have l2 := lt_of_at hy
    have := List.pairwise_iff_getElem.1 h1 i j l1 l2 hij
    rw [List.getElem?_eq_getElem l1] at hx
    rw [List.getElem?_eq_getElem l2] at hy
    injection hx with hx
    injection hy with hy
    subst hx
    subst hy
    rw [hb] at this; cases this
set_option maxRecDepth 100000 in
theorem mj_yes {vs : List Vt} {r : List Int} (h : ∀ (i j : Nat) (x y : Int), i < j → r[i]? = some x → r[j]? = some y → beatsV vs x y = true) : mjOk vs r = true := by
  rw [mjOk_iff, List.pairwise_iff_getElem]
  intro i j hi hj hij
  exact h i j _ _ hij (List.getElem?_eq_getElem hi) (List.getElem?_eq_getElem hj)

/-- The first ranking with the least cost, this cost, and how many have it. -/
def lstT (cost : List Int → Int) (xss : List (List Int)) : Nat → List Int × Int × Nat
  | 0 => ([], 0, 0)
  | k + 1 => if k = 0 ∨ cost (xss.getD k []) < (lstT cost xss k).2.1 then (xss.getD k [], cost (xss.getD k []), 1)
    else if cost (xss.getD k []) = (lstT cost xss k).2.1 then ((lstT cost xss k).1, (lstT cost xss k).2.1, (lstT cost xss k).2.2 + 1) else lstT cost xss k
set_option maxRecDepth 100000 in
theorem lstT_mem {cost : List Int → Int} {xss : List (List Int)} : ∀ k, 1 ≤ k → k ≤ xss.length → (lstT cost xss k).1 ∈ xss ∧ (lstT cost xss k).2.1 = cost (lstT cost xss k).1
  | 0, h, _ => by omega
  | k + 1, _, hk => by
    obtain ⟨r, hr⟩ := at_of_lt (xs := xss) (k := k) (by omega)
    have hg : xss.getD k [] = r := by simp [List.getD, hr]
    have hm := List.mem_of_getElem? hr
    rw [lstT, hg]
    by_cases h0 : k = 0 ∨ cost r < (lstT cost xss k).2.1
    · rw [if_pos h0]; exact ⟨hm, rfl⟩
    · rw [if_neg h0]
      have ih := lstT_mem (cost := cost) (xss := xss) k (by omega) (by omega)
      split
      · exact ⟨ih.1, ih.2⟩
      · exact ih

set_option maxRecDepth 100000 in
theorem bkTo_bd (q : Int → Int → Bool) (r : List Int) : ∀ k, bkTo q r k ≤ k * r.length
  | 0 => by simp [bkTo]
  | k + 1 => by
    have h := bkTo_bd q r k
    have h2 := List.countP_le_length (p := fun y => q y (r.getD k 0)) (l := r.drop (k + 1))
    rw [List.length_drop] at h2
    rw [bkTo, Nat.succ_mul]
    omega
set_option maxRecDepth 100000 in
theorem countP_at {p : Int → Bool} {xs : List Int} {k : Nat} {x : Int} (h : xs[k]? = some x) : (xs.take (k + 1)).countP p = (xs.take k).countP p + if p x then 1 else 0 := by
  rw [take_at h, List.countP_append, List.countP_cons, List.countP_nil]; simp

def loserO (sz : Int) (vs : List Vt) : Int := onlyL (thoseO sz vs (fun i j => bt vs j i))
def winnerO (sz : Int) (vs : List Vt) : Int := onlyL (thoseO sz vs (bt vs))
set_option maxRecDepth 100000 in
theorem smallL (n : Nat) (vs : List Vt) : (upsL n vs).length = n ∧ (dnsL n vs).length = n := ⟨rowL_len _ _, rowL_len _ _⟩

set_option maxRecDepth 100000 in
theorem small_up {n : Nat} (h : n ≤ 5) (vs : List Vt) : (upsL n vs).length ≤ 2000000 := by have := smallL n vs; omega
set_option maxRecDepth 100000 in
theorem small_dn {n : Nat} (h : n ≤ 5) (vs : List Vt) : (dnsL n vs).length ≤ 2000000 := by have := smallL n vs; omega

set_option maxRecDepth 100000 in
set_option maxHeartbeats 1000000 in
theorem winF (w : World) (n : Nat) (g : Nat) (a : Option Addr) (c : Nat) (vs : List Vt) (i j : Nat) (h0 : w.cell? ⟨g, 0, none⟩ = some (.int .i64 n)) (h1 : w.cell? ⟨g, 1, none⟩ = some (.slice a vs.length c)) (hR : RdV w a vs) (hS : SmallV n vs) :
    Calls Try.prog 60 #[.int .i64 i, .int .i64 j, .pointer (some ⟨g, 0, none⟩)] w fun e w' => e = .returned (.bool (bt vs i j)) ∧ Ext w w' := by
  have HS := hide hS
  clear hS
  go_enter Try.func60, Try.ntmps60
  go_wp2_with (go_at_call 61; refine (beats_impl _ _ _ _ _ _ _ hR HS.out).mono ?_; rintro e w1 ⟨rfl, hw1⟩)
  go_ret
  exact ⟨rfl, hw1⟩

set_option maxRecDepth 100000 in
set_option maxHeartbeats 1000000 in
theorem winner_impl (w : World) (sz : Int) (a : Option Addr) (c : Nat) (vs : List Vt) (hR : RdV w a vs) :
    Calls Try.prog 27 #[.agg #[.int .i64 sz, .slice a vs.length c]] w fun e w' => e = .returned (.int .i64 (winnerO sz vs)) ∧ Ext w w' := by
  go_enter Try.func27, Try.ntmps27
  go_wp2_with fail
  refine (only_impl 60 _ (bt vs) _ sz a c vs (hR.ext (by repeat (first | exact Ext.refl _ | assumption | refine Ext.alloc ?_ _ | refine Ext.drew ?_ | refine Ext.trans ?_ (by assumption)))) Try.call60 ?_).mono ?_
  · rintro n i j w' rfl hn hS hi hj hw'
    exact winF w' n _ a c vs i j (hw'.keep (new0 w _ _ _)) (hw'.keep (new1 w _ _ _ _)) (hR.ext (Ext.trans (by repeat (first | exact Ext.refl _ | assumption | refine Ext.alloc ?_ _ | refine Ext.drew ?_ | refine Ext.trans ?_ (by assumption))) hw')) hS
  rintro e w1 ⟨rfl, hw1⟩
  go_wp2
  go_ret
  exact ⟨rfl, (by repeat (first | exact Ext.refl _ | assumption | refine Ext.alloc ?_ _ | refine Ext.drew ?_ | refine Ext.trans ?_ (by assumption)))⟩

end Go.Proofs.Ytkbbcglghfddjaa
