/- Ballots that lead to a winner (plain law). -/
import Derived.Test.YtilcdnkkabmbfaaGreatMod
namespace Go.Proofs.YtilcdnkkabmbfaaGreat
open Go.RowKit

/-- Who wins when a vote has another ranking. -/
noncomputable def gnW (rule sz : Int) (vs : List Vt) (k : Nat) (r : List Int) : Int := winB rule sz (vs.set k (r, (vs.getD k ([], 0)).2))
/-- The first of some rankings that leads to a candidate. -/
def wayO (W : List Int → Int) (rows : List (List Int)) (a : Int) : Option (List Int) := rows.find? (fun r => W r == a)
/-- The first of some rankings that leads to the winner that a true one prefers to all others. -/
def repT (W : List Int → Int) (truth : List Int) (rows : List (List Int)) : Nat → List Int × Int
  | 0 => ([], -1)
  | m + 1 => if (repT W truth rows m).2 < 0 ∨ prefB truth (W (rows.getD m [])) (repT W truth rows m).2 = true then (rows.getD m [], W (rows.getD m [])) else repT W truth rows m
def repO (W : List Int → Int) (truth : List Int) (n : Nat) : List Int × Int := repT W truth (allO n) (allO n).length
def plyB (rule sz : Int) (vs : List Vt) : Bool := profOk sz vs && (decide (sz ≤ 4) && inR rule 1 13)
def gnB (rule sz : Int) (vs : List Vt) (k : Int) : Bool := plyB rule sz vs && inR k 0 ((vs.length : Int) - 1)
noncomputable def reaO (rule sz : Int) (vs : List Vt) (k : Int) : List Int := if gnB rule sz vs k then upL sz.toNat (fun a => (wayO (gnW rule sz vs k.toNat) (allO sz.toNat) a).isSome) else []
set_option maxRecDepth 100000 in
theorem reaO_len (rule sz : Int) (vs : List Vt) (k : Int) : (reaO rule sz vs k).length ≤ 5 := by
  unfold reaO
  cases h : gnB rule sz vs k
  · simp
  · unfold gnB plyB at h
    simp only [Bool.and_eq_true, decide_eq_true_eq] at h
    have h2 := upL_len sz.toNat (fun a => (wayO (gnW rule sz vs k.toNat) (allO sz.toNat) a).isSome)
    rw [if_pos rfl]; omega
set_option maxRecDepth 100000 in
theorem wayO_at {W : List Int → Int} {rows : List (List Int)} {k : Nat} {r : List Int} (hr : rows[k]? = some r) (a : Int) : wayO W (rows.take (k + 1)) a = if (wayO W (rows.take k) a).isSome = false ∧ W r = a then some r else wayO W (rows.take k) a := by
  unfold wayO
  rw [take_at hr, List.find?_append]
  cases h : (rows.take k).find? (fun r => W r == a) with
  | some r' => simp
  | none =>
    by_cases e : W r = a
    · subst e; simp
    · have : (W r == a) = false := by rw [beq_eq_false_iff_ne]; exact e
      simp [this, e]
set_option maxRecDepth 100000 in
theorem wayO_mem {W : List Int → Int} {rows : List (List Int)} {a : Int} {r : List Int} (h : wayO W rows a = some r) : r ∈ rows ∧ W r = a := by
  unfold wayO at h
  exact ⟨List.mem_of_find?_eq_some h, by simpa using List.find?_some h⟩
set_option maxRecDepth 100000 in
theorem pref_trans {xs : List Int} {a b c : Int} (h1 : prefB xs a b = true) (h2 : prefB xs b c = true) : prefB xs a c = true := by
  unfold prefB at *
  simp only [Bool.and_eq_true, decide_eq_true_eq] at *
  omega
set_option maxRecDepth 100000 in
theorem pref_irr (xs : List Int) (a : Int) : prefB xs a a = false := by
  unfold prefB; simp
set_option maxRecDepth 100000 in
theorem repT_new {W : List Int → Int} {truth : List Int} {rows : List (List Int)} {m : Nat} {r : List Int} (hr : rows[m]? = some r) (h : (repT W truth rows m).2 < 0 ∨ prefB truth (W r) (repT W truth rows m).2 = true) : repT W truth rows (m + 1) = (r, W r) := by
  have hg : rows.getD m [] = r := by simp [List.getD, hr]
  rw [repT, hg, if_pos h]
set_option maxRecDepth 100000 in
theorem repT_old {W : List Int → Int} {truth : List Int} {rows : List (List Int)} {m : Nat} {r : List Int} (hr : rows[m]? = some r) (h : ¬ ((repT W truth rows m).2 < 0 ∨ prefB truth (W r) (repT W truth rows m).2 = true)) : repT W truth rows (m + 1) = repT W truth rows m := by
  have hg : rows.getD m [] = r := by simp [List.getD, hr]
  rw [repT, hg, if_neg h]
set_option maxRecDepth 100000 in
/-- What is known of the best answer among the first m rankings. -/
theorem repT_inv {W : List Int → Int} {truth : List Int} {rows : List (List Int)} (hW : ∀ r ∈ rows, 0 ≤ W r) : ∀ m, 1 ≤ m → m ≤ rows.length →
    ((repT W truth rows m).1 ∈ rows ∧ W (repT W truth rows m).1 = (repT W truth rows m).2) ∧ (∀ r ∈ rows.take m, prefB truth (W r) (repT W truth rows m).2 = false) ∧ wayO W (rows.take m) (repT W truth rows m).2 = some (repT W truth rows m).1
  | 0, h, _ => by omega
  | m + 1, _, hm => by
    obtain ⟨r, hr⟩ := at_of_lt (xs := rows) (k := m) (by omega)
    have hmem := List.mem_of_getElem? hr
    by_cases h : (repT W truth rows m).2 < 0 ∨ prefB truth (W r) (repT W truth rows m).2 = true
    · rw [repT_new hr h]
      have hno : ∀ r' ∈ rows.take m, prefB truth (W r') (W r) = false ∧ W r' ≠ W r := fun r' hr' => by
        by_cases h0 : m = 0
        · subst h0; simp at hr'
        · obtain ⟨⟨i1, i2⟩, i3, _⟩ := repT_inv (truth := truth) hW m (by omega) (by omega)
          have hp : prefB truth (W r) (repT W truth rows m).2 = true := by
            rcases h with h | h
            · have := hW _ i1; omega
            · exact h
          have h3 := i3 r' hr'
          refine ⟨?_, fun e => by rw [e, hp] at h3; cases h3⟩
          cases hq : prefB truth (W r') (W r)
          · rfl
          · rw [pref_trans hq hp] at h3; cases h3
      refine ⟨⟨hmem, rfl⟩, fun r' hr' => ?_, ?_⟩
      · rw [take_at hr] at hr'
        rcases List.mem_append.1 hr' with h1 | h1
        · exact (hno r' h1).1
        · rw [List.mem_singleton] at h1
          subst h1; exact pref_irr _ _
      · rw [wayO_at hr]
        have hn : (wayO W (rows.take m) (W r)).isSome = false := by
          cases hw : wayO W (rows.take m) (W r) with
          | none => rfl
          | some r' =>
            obtain ⟨w1, w2⟩ := wayO_mem hw
            exact absurd w2 (hno r' w1).2
        rw [if_pos ⟨hn, rfl⟩]
    · have h0 : m ≠ 0 := fun e => by subst e; exact h (.inl (by simp [repT]))
      obtain ⟨i1, i3, i4⟩ := repT_inv (truth := truth) hW m (by omega) (by omega)
      rw [repT_old hr h]
      refine ⟨i1, fun r' hr' => ?_, ?_⟩
      · rw [take_at hr] at hr'
        rcases List.mem_append.1 hr' with h1 | h1
        · exact i3 r' h1
        · rw [List.mem_singleton] at h1
          subst h1
          cases hp : prefB truth (W r') (repT W truth rows m).2
          · rfl
          · exact absurd (.inr hp) h
      · rw [wayO_at hr, i4, if_neg (by simp)]
set_option maxRecDepth 100000 in
theorem gnW_lt {rule : Int} {n : Nat} {vs : List Vt} {k : Nat} {r : List Int} {x : Vt} (h0 : profOk n vs = true) (r1 : 1 ≤ rule) (r2 : rule ≤ 13) (hx : vs[k]? = some x) (hr : rkOk n r = true) : ∃ a : Nat, a < n ∧ gnW rule n vs k r = a := by
  unfold gnW
  refine winB_some ?_ r1 r2
  have hgd : vs.getD k ([], 0) = x := by simp [List.getD, hx]
  rw [hgd]
  have hxm := List.mem_of_getElem? hx
  unfold profOk at h0 ⊢
  simp only [Bool.and_eq_true, decide_eq_true_eq, List.all_eq_true] at h0 ⊢
  refine ⟨h0.1, by rw [List.length_set]; exact h0.2.1, fun y hy => ?_⟩
  rcases List.mem_or_eq_of_mem_set hy with h | h
  · exact h0.2.2 y h
  · subst h
    have h2 := h0.2.2 x hxm
    unfold vtOk at h2 ⊢
    simp only [Bool.and_eq_true] at h2 ⊢
    exact ⟨hr, h2.2⟩

end Go.Proofs.YtilcdnkkabmbfaaGreat
