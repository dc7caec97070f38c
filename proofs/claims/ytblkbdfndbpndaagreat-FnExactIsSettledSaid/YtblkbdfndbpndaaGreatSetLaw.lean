/- FnExactIsSettled answers true at every input. -/
import Derived.Test.YtblkbdfndbpndaaGreatSetLawW
import Derived.Test.YtblkbdfndbpndaaGreatClo
namespace Go.Proofs.YtblkbdfndbpndaaGreat
open Go.RowKit

section
open Go.ChangeShapes Go.WideShapes Go.ChangeAt Go.RowKit Go.Joins Go.Deep
set_option maxRecDepth 100000 in
theorem fnExactIsSettled_c9 : (Rows.fnExactIsSettledRow.inPlace == Tryz.pinned.checked.prog.inPlace 13) = true := by kernel_rfl
set_option maxRecDepth 100000 in
theorem fnExactIsSettled_c10 : (Rows.fnExactIsSettledRow.unfollowed == Tryz.pinned.checked.prog.unfollowed 13) = true := by kernel_rfl
set_option maxRecDepth 100000 in
theorem fnExactIsSettled_c11 : (Rows.fnExactIsSettledRow.recurses == Tryz.pinned.checked.prog.recurses 13) = true := by kernel_rfl
set_option maxRecDepth 100000 in
theorem fnExactIsSettled_c12 : (Rows.fnExactIsSettledRow.named == Tryz.pinned.checked.prog.varsNamed 13) = true := by kernel_rfl
set_option maxRecDepth 100000 in
theorem fnExactIsSettled_closed : joinedFacts Tryz.pinned.checked.prog 13 Tryz.f13 Rows.fnExactIsSettledSpec Rows.fnExactIsSettledRow = true := by
  unfold joinedFacts
  refine band (band (band (band (band (band (band (band (band (band (band (band (band (band (band (band (band (band (band (band (band (band (band (band (band (band (band (band (band (band (band ?_ ?_) ?_) ?_) ?_) ?_) ?_) ?_) ?_) ?_) ?_) ?_) ?_) ?_) ?_) ?_) ?_) ?_) ?_) ?_) ?_) ?_) ?_) ?_) ?_) ?_) ?_) ?_) ?_) ?_) ?_) ?_
  · kernel_rfl
  · exact clo_laid
  · kernel_rfl
  · kernel_rfl
  · kernel_rfl
  · kernel_rfl
  · kernel_rfl
  · kernel_rfl
  · kernel_rfl
  · exact fnExactIsSettled_c9
  · exact fnExactIsSettled_c10
  · exact fnExactIsSettled_c11
  · exact fnExactIsSettled_c12
  · kernel_rfl
  · kernel_rfl
  · kernel_rfl
  · kernel_rfl
  · kernel_rfl
  · kernel_rfl
  · kernel_rfl
  · kernel_rfl
  · kernel_rfl
  · kernel_rfl
  · kernel_rfl
  · exact clo_hear
  · exact clo_enter
  · exact clo_lifts
  · exact clo_make
  · kernel_rfl
  · kernel_rfl
  · kernel_rfl
  · kernel_rfl
set_option maxRecDepth 100000 in
theorem fnExactIsSettled_holds : Rows.FnExactIsSettledSaid :=
  OpenClaim.holds_of_wide 13 Tryz.f13 rfl rfl rfl rfl rfl rfl rfl ⟨rfl, rfl, rfl, rfl, rfl⟩ rfl rfl rfl rfl rfl (by kernel_rfl) Tryz.func13 fnExactIsSettled_closed
    (of_decide_eq_true (by kernel_rfl)) (by unfold Func.isWrapper; first | (rw [if_pos (by decide +kernel)]; kernel_rfl) | (rw [if_neg (by decide +kernel)]; exact ⟨rfl, rfl⟩))
    (fun os started H enc _ => fnExactIsSettled_lifted os started H enc)
#print axioms fnExactIsSettled_holds
end

end Go.Proofs.YtblkbdfndbpndaaGreat
