/- Profiles compared whole, and overwritten by marks. -/
import Derived.Test.YthiojkpoeejkaaaCa4
namespace Go.Proofs.Ythiojkpoeejkaaa
open Go.RowKit

/-- What is left of a copy whose first k votes have been overwritten. -/
def MkV (w : World) (lo hi : Nat) (g : Nat) (vs : List Vt) (k : Nat) : Prop := ∃ (f : Nat → Value) (h : Nat → Nat), lo ≤ g ∧ g < hi ∧ BlkF w g (vs.length * 2) f ∧
  ∀ j x, k ≤ j → vs[j]? = some x → f (j * 2) = .slice (some ⟨h j, 0, none⟩) x.1.length x.1.length ∧ g < h j ∧ h j < hi ∧
    (∀ i, k ≤ i → i < j → h i < h j) ∧ ∃ fi, BlkF w (h j) x.1.length fi
set_option maxRecDepth 100000 in
theorem OwnV.mk {w : World} {lo hi g : Nat} {vs : List Vt} (h : OwnV w lo hi g vs vs.length) : MkV w lo hi g vs 0 := by
  obtain ⟨f, h, h1, h2, hB, hj⟩ := h
  refine ⟨f, h, h1, h2, hB, fun j x _ hx => ?_⟩
  obtain ⟨a0, a1, a2, a3, a4, fi, a5, a6⟩ := hj j x (lt_of_at hx) hx
  exact ⟨a0, a2, a3, fun i _ hi => a4 i hi, fi, a5⟩
set_option maxRecDepth 100000 in
theorem MkV.ext {w w' : World} {lo hi g k : Nat} {vs : List Vt} (h : MkV w lo hi g vs k) (hw : Ext w w') : MkV w' lo hi g vs k := by
  obtain ⟨f, h, h1, h2, hB, hj⟩ := h
  refine ⟨f, h, h1, h2, hB.ext hw, fun j x hk hx => ?_⟩
  obtain ⟨a0, a2, a3, a4, fi, a5⟩ := hj j x hk hx
  exact ⟨a0, a2, a3, a4, fi, a5.ext hw⟩
set_option maxRecDepth 100000 in
theorem MkV.at_ {w : World} {lo hi g k : Nat} {vs : List Vt} {x : Vt} (h : MkV w lo hi g vs k) (hx : vs[k]? = some x) :
    ∃ gk fi v, w.cell? ⟨g, k * 2, none⟩ = some (.slice (some ⟨gk, 0, none⟩) x.1.length x.1.length) ∧ w.cell? ⟨g, k * 2 + 1, none⟩ = some v ∧ (∀ o, w.frozen? ⟨g, o, none⟩ = false) ∧ lo ≤ gk ∧ gk < hi ∧ BlkF w gk x.1.length fi ∧
      ∀ w', Only gk w w' → (∀ o, w'.frozen? ⟨g, o, none⟩ = false) ∧ w'.cell? ⟨g, k * 2 + 1, none⟩ = some v ∧ ∀ u, MkV (w'.setCell ⟨g, k * 2 + 1, none⟩ u) lo hi g vs (k + 1) := by
  obtain ⟨f, h, h1, h2, hB, hj⟩ := h
  have hl := lt_of_at hx
  obtain ⟨a0, a2, a3, a4, fi, a5⟩ := hj k x (Nat.le_refl _) hx
  refine ⟨h k, fi, _, ?_, hB.cell _ (by omega), hB.fr, by omega, a3, a5, fun w' hw => ?_⟩
  · rw [hB.cell _ (by omega), a0]
  · have hB' := hw.blk hB (by omega)
    refine ⟨hB'.fr, hB'.cell _ (by omega), fun u => ⟨_, h, h1, h2, hB'.set _ (by omega) u, fun j y hk hy => ?_⟩⟩
    obtain ⟨b0, b2, b3, b4, fj, b5⟩ := hj j y (by omega) hy
    have := b4 k (Nat.le_refl _) (by omega)
    refine ⟨?_, b2, b3, fun i h3 h4 => b4 i (by omega) h4, fj, (hw.blk b5 (by omega)).far (by simp; omega) _⟩
    rw [if_neg (by omega)]; exact b0

end Go.Proofs.Ythiojkpoeejkaaa
