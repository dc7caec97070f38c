/- Rankings that are raised, cut and turned round, of the program and of the spec. -/
import Derived.Test.YtafdedgckbhhjaaGreatCln
import Derived.Test.YtafdedgckbhhjaaGreatCk12
namespace Go.Proofs.YtafdedgckbhhjaaGreat
open Go.RowKit

set_option maxRecDepth 100000 in
theorem place_some {xs : List Int} {x : Int} (h : 0 ≤ placeI xs x) : ∃ i : Nat, placeI xs x = i ∧ i < xs.length ∧ xs[i]? = some x := by
  unfold placeI findI at h ⊢
  split at h
  · rename_i k hk
    rw [List.findIdx?_eq_some_iff_getElem] at hk
    obtain ⟨h1, h2, _⟩ := hk
    have h3 : x = xs[k] := by simpa using h2
    exact ⟨k, rfl, h1, by rw [List.getElem?_eq_getElem h1, ← h3]⟩
  · omega
set_option maxRecDepth 100000 in
theorem OwnI.some {w : World} {B : Nat} {v : Value} {xs : List Int} (h : OwnI w B v xs) (hne : 0 < xs.length) : ∃ g c, v = .slice (some ⟨g, 0, none⟩) xs.length c := by
  obtain ⟨a, c, hv, _, _, _, hb⟩ := h.val
  obtain ⟨g, hg, _⟩ := hb (fun e => by rw [e] at hne; simp at hne)
  exact ⟨g, c, by rw [hv, hg]⟩

end Go.Proofs.YtafdedgckbhhjaaGreat
