/- The orders of elimination, on both sides. -/
import Derived.Test.YtacmabdeocmheaaElimT
namespace Go.Proofs.Ytacmabdeocmheaa
open Go.RowKit

set_option maxRecDepth 100000 in
theorem OwnI.formR' {w : World} {B : Nat} {u : Value} {xs : List Int} (h : OwnI w B u xs) : ∃ a n c, u = .slice a n c ∧ n = xs.length ∧ RdI w a xs := by
  obtain ⟨a, c, rfl, _, _, hR, _⟩ := h.val
  exact ⟨_, _, _, rfl, rfl, hR⟩
set_option maxRecDepth 100000 in
theorem pick_nat {n : Nat} {f : Int → Int} {q : Nat → Bool} {i : Nat} (hi : i ≤ n) (hne : upL i q ≠ []) : ∃ p : Nat, p < n ∧ pickV f (upL i q) = p := by
  have h := pickV_mem (f := f) hne
  obtain ⟨p, hp, _, e⟩ := upL_mem.1 h
  exact ⟨p, by omega, e⟩

end Go.Proofs.Ytacmabdeocmheaa
