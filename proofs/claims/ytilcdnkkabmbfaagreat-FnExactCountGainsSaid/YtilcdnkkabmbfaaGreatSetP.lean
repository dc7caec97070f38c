/- Who has a better answer than his own vote (plain law). -/
import Derived.Test.YtilcdnkkabmbfaaGreatGnP
import Derived.Test.YtilcdnkkabmbfaaGreatCk6
namespace Go.Proofs.YtilcdnkkabmbfaaGreat
open Go.RowKit

/-- Whether a voter of a true ranking has something better to hand in. -/
noncomputable def betB (rule sz : Int) (vs : List Vt) (k : Nat) (truth : List Int) : Bool := prefB truth (repO (gnW rule sz vs k) truth sz.toNat).2 (winB rule sz vs)
noncomputable def setO (rule sz : Int) (vs : List Vt) (sz2 : Int) (ts : List Vt) : Bool :=
  plyB rule sz vs && (profOk sz2 ts && (decide (sz2 = sz) && (decide (ts.length = vs.length) && allN ts.length (fun k => !betB rule sz vs k (ts.getD k ([], 0)).1))))
set_option maxRecDepth 100000 in
theorem best_at {W : List Int → Int} {truth : List Int} {rows : List (List Int)} {n i : Nat} {a : Int} {r : List Int} (hW : ∀ r ∈ rows, ∃ y : Nat, y < n ∧ W r = y) (hne : 1 ≤ rows.length) (hk : rkOk n truth = true) (hi : truth[i]? = some a) (hno : ∀ j, j < i → ∀ b, truth[j]? = some b → wayO W rows b = none) (hs : wayO W rows a = some r) : repT W truth rows rows.length = (r, a) := by
  obtain ⟨⟨b1, b2⟩, b3, b4⟩ := repT_inv (W := W) (truth := truth) (fun r hr => by obtain ⟨y, _, e⟩ := hW r hr; omega) rows.length hne (Nat.le_refl _)
  rw [List.take_length] at b3 b4
  obtain ⟨y, hy, ey⟩ := hW _ b1
  obtain ⟨m1, m2⟩ := wayO_mem hs
  obtain ⟨y', hy', ey'⟩ := hW _ m1
  obtain ⟨k, hk1, k1, k2, k3⟩ := place_at hk hy
  obtain ⟨k', hk1', k1', k2', k3'⟩ := place_at hk hy'
  have ha : a = y' := by rw [← m2, ey']
  have hik : i = k' := k3' i (by rw [hi, ha])
  have hb : (repT W truth rows rows.length).2 = y := by rw [← b2, ey]
  have h3 := b3 r m1
  rw [hb, ey'] at h3
  rw [hb] at b4
  have hnk : ¬ k' < k := fun h => by
    have : prefB truth y' y = true := by
      unfold prefB
      simp only [Bool.and_eq_true, decide_eq_true_eq]
      omega
    rw [this] at h3; cases h3
  have hkn : ¬ k < k' := fun h => by
    have := hno k (by omega) _ k2
    rw [this] at b4; cases b4
  have e : k = k' := by omega
  subst e
  have e2 : (y : Int) = y' := by rw [k2] at k2'; injection k2'
  rw [ha, ← e2, hs.symm.trans (by rw [ha, ← e2]; exact b4) |> Option.some.inj] 
  rw [← hb]
set_option maxRecDepth 100000 in
theorem best_end {W : List Int → Int} {truth : List Int} {rows : List (List Int)} {n : Nat} (hW : ∀ r ∈ rows, ∃ y : Nat, y < n ∧ W r = y) (hne : 1 ≤ rows.length) (hk : rkOk n truth = true) (hno : ∀ j, j < truth.length → ∀ b, truth[j]? = some b → wayO W rows b = none) : False := by
  obtain ⟨⟨b1, b2⟩, b3, b4⟩ := repT_inv (W := W) (truth := truth) (fun r hr => by obtain ⟨y, _, e⟩ := hW r hr; omega) rows.length hne (Nat.le_refl _)
  rw [List.take_length] at b4
  obtain ⟨y, hy, ey⟩ := hW _ b1
  obtain ⟨k, hk1, k1, k2, k3⟩ := place_at hk hy
  rw [← b2, ey, hno k (List.getElem?_eq_some_iff.1 k2).1 _ k2] at b4
  cases b4

end Go.Proofs.YtilcdnkkabmbfaaGreat
