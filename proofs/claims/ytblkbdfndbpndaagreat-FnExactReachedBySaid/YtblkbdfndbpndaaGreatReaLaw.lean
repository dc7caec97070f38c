/- FnExactReachedBy answers true at every input. -/
import Derived.Test.YtblkbdfndbpndaaGreatReaLawW
import Derived.Test.YtblkbdfndbpndaaGreatClo
namespace Go.Proofs.YtblkbdfndbpndaaGreat
open Go.RowKit

section
open Go.ChangeShapes Go.WideShapes Go.ChangeAt Go.RowKit Go.Joins Go.Deep
set_option maxRecDepth 100000 in
theorem fnExactReachedBy_c9 : (Rows.fnExactReachedByRow.inPlace == Tryz.pinned.checked.prog.inPlace 14) = true := by kernel_rfl
set_option maxRecDepth 100000 in
theorem fnExactReachedBy_c10 : (Rows.fnExactReachedByRow.unfollowed == Tryz.pinned.checked.prog.unfollowed 14) = true := by kernel_rfl
set_option maxRecDepth 100000 in
theorem fnExactReachedBy_c11 : (Rows.fnExactReachedByRow.recurses == Tryz.pinned.checked.prog.recurses 14) = true := by kernel_rfl
set_option maxRecDepth 100000 in
theorem fnExactReachedBy_c12 : (Rows.fnExactReachedByRow.named == Tryz.pinned.checked.prog.varsNamed 14) = true := by kernel_rfl
set_option maxRecDepth 100000 in
theorem fnExactReachedBy_closed : joinedFacts Tryz.pinned.checked.prog 14 Tryz.f14 Rows.fnExactReachedBySpec Rows.fnExactReachedByRow = true := by
  unfold joinedFacts
  refine band (band (band (band (band (band (band (band (band (band (band (band (band (band (band (band (band (band (band (band (band (band (band (band (band (band (band (band (band (band (band ?_ ?_) ?_) ?_) ?_) ?_) ?_) ?_) ?_) ?_) ?_) ?_) ?_) ?_) ?_) ?_) ?_) ?_) ?_) ?_) ?_) ?_) ?_) ?_) ?_) ?_) ?_) ?_) ?_) ?_) ?_) ?_
  · kernel_rfl
  · exact clo_laid
  · kernel_rfl
  · kernel_rfl
  · kernel_rfl
  · kernel_rfl
  · kernel_rfl
  · kernel_rfl
  · kernel_rfl
  · exact fnExactReachedBy_c9
  · exact fnExactReachedBy_c10
  · exact fnExactReachedBy_c11
  · exact fnExactReachedBy_c12
  · kernel_rfl
  · kernel_rfl
  · kernel_rfl
  · kernel_rfl
  · kernel_rfl
  · kernel_rfl
  · kernel_rfl
  · kernel_rfl
  · kernel_rfl
  · kernel_rfl
  · kernel_rfl
  · exact clo_hear
  · exact clo_enter
  · exact clo_lifts
  · exact clo_make
  · kernel_rfl
  · kernel_rfl
  · kernel_rfl
  · kernel_rfl
set_option maxRecDepth 100000 in
theorem fnExactReachedBy_holds : Rows.FnExactReachedBySaid :=
  OpenClaim.holds_of_wide 14 Tryz.f14 rfl rfl rfl rfl rfl rfl rfl ⟨rfl, rfl, rfl, rfl, rfl⟩ rfl rfl rfl rfl rfl (by kernel_rfl) Tryz.func14 fnExactReachedBy_closed
    (of_decide_eq_true (by kernel_rfl)) (by unfold Func.isWrapper; first | (rw [if_pos (by decide +kernel)]; kernel_rfl) | (rw [if_neg (by decide +kernel)]; exact ⟨rfl, rfl⟩))
    (fun os started H enc _ => fnExactReachedBy_lifted os started H enc)
#print axioms fnExactReachedBy_holds
end

end Go.Proofs.YtblkbdfndbpndaaGreat
