/- FnExactSpoilerOf answers true at every input. -/
import Derived.Test.YtblkbdfndbpndaaGreatSpoLawW
import Derived.Test.YtblkbdfndbpndaaGreatClo
namespace Go.Proofs.YtblkbdfndbpndaaGreat
open Go.RowKit

section
open Go.ChangeShapes Go.WideShapes Go.ChangeAt Go.RowKit Go.Joins Go.Deep
set_option maxRecDepth 100000 in
theorem fnExactSpoilerOf_c9 : (Rows.fnExactSpoilerOfRow.inPlace == Tryz.pinned.checked.prog.inPlace 12) = true := by kernel_rfl
set_option maxRecDepth 100000 in
theorem fnExactSpoilerOf_c10 : (Rows.fnExactSpoilerOfRow.unfollowed == Tryz.pinned.checked.prog.unfollowed 12) = true := by kernel_rfl
set_option maxRecDepth 100000 in
theorem fnExactSpoilerOf_c11 : (Rows.fnExactSpoilerOfRow.recurses == Tryz.pinned.checked.prog.recurses 12) = true := by kernel_rfl
set_option maxRecDepth 100000 in
theorem fnExactSpoilerOf_c12 : (Rows.fnExactSpoilerOfRow.named == Tryz.pinned.checked.prog.varsNamed 12) = true := by kernel_rfl
set_option maxRecDepth 100000 in
theorem fnExactSpoilerOf_closed : joinedFacts Tryz.pinned.checked.prog 12 Tryz.f12 Rows.fnExactSpoilerOfSpec Rows.fnExactSpoilerOfRow = true := by
  unfold joinedFacts
  refine band (band (band (band (band (band (band (band (band (band (band (band (band (band (band (band (band (band (band (band (band (band (band (band (band (band (band (band (band (band (band ?_ ?_) ?_) ?_) ?_) ?_) ?_) ?_) ?_) ?_) ?_) ?_) ?_) ?_) ?_) ?_) ?_) ?_) ?_) ?_) ?_) ?_) ?_) ?_) ?_) ?_) ?_) ?_) ?_) ?_) ?_) ?_
  · kernel_rfl
  · exact clo_laid
  · kernel_rfl
  · kernel_rfl
  · kernel_rfl
  · kernel_rfl
  · kernel_rfl
  · kernel_rfl
  · kernel_rfl
  · exact fnExactSpoilerOf_c9
  · exact fnExactSpoilerOf_c10
  · exact fnExactSpoilerOf_c11
  · exact fnExactSpoilerOf_c12
  · kernel_rfl
  · kernel_rfl
  · kernel_rfl
  · kernel_rfl
  · kernel_rfl
  · kernel_rfl
  · kernel_rfl
  · kernel_rfl
  · kernel_rfl
  · kernel_rfl
  · kernel_rfl
  · exact clo_hear
  · exact clo_enter
  · exact clo_lifts
  · exact clo_make
  · kernel_rfl
  · kernel_rfl
  · kernel_rfl
  · kernel_rfl
set_option maxRecDepth 100000 in
theorem fnExactSpoilerOf_holds : Rows.FnExactSpoilerOfSaid :=
  OpenClaim.holds_of_wide 12 Tryz.f12 rfl rfl rfl rfl rfl rfl rfl ⟨rfl, rfl, rfl, rfl, rfl⟩ rfl rfl rfl rfl rfl (by kernel_rfl) Tryz.func12 fnExactSpoilerOf_closed
    (of_decide_eq_true (by kernel_rfl)) (by unfold Func.isWrapper; first | (rw [if_pos (by decide +kernel)]; kernel_rfl) | (rw [if_neg (by decide +kernel)]; exact ⟨rfl, rfl⟩))
    (fun os started H enc _ => fnExactSpoilerOf_lifted os started H enc)
#print axioms fnExactSpoilerOf_holds
end

end Go.Proofs.YtblkbdfndbpndaaGreat
