/- FnExactBestReply answers true at every input. -/
import Derived.Test.YtafdedgckbhhjaaGreatRplLawW
import Derived.Test.YtafdedgckbhhjaaGreatClo
namespace Go.Proofs.YtafdedgckbhhjaaGreat
open Go.RowKit

section
open Go.ChangeShapes Go.WideShapes Go.ChangeAt Go.RowKit Go.Joins Go.Deep
set_option maxRecDepth 100000 in
theorem fnExactBestReply_c9 : (Rows.fnExactBestReplyRow.inPlace == Tryz.pinned.checked.prog.inPlace 3) = true := by kernel_rfl
set_option maxRecDepth 100000 in
theorem fnExactBestReply_c10 : (Rows.fnExactBestReplyRow.unfollowed == Tryz.pinned.checked.prog.unfollowed 3) = true := by kernel_rfl
set_option maxRecDepth 100000 in
theorem fnExactBestReply_c11 : (Rows.fnExactBestReplyRow.recurses == Tryz.pinned.checked.prog.recurses 3) = true := by kernel_rfl
set_option maxRecDepth 100000 in
theorem fnExactBestReply_c12 : (Rows.fnExactBestReplyRow.named == Tryz.pinned.checked.prog.varsNamed 3) = true := by kernel_rfl
set_option maxRecDepth 100000 in
theorem fnExactBestReply_closed : joinedFacts Tryz.pinned.checked.prog 3 Tryz.f3 Rows.fnExactBestReplySpec Rows.fnExactBestReplyRow = true := by
  unfold joinedFacts
  refine band (band (band (band (band (band (band (band (band (band (band (band (band (band (band (band (band (band (band (band (band (band (band (band (band (band (band (band (band (band (band ?_ ?_) ?_) ?_) ?_) ?_) ?_) ?_) ?_) ?_) ?_) ?_) ?_) ?_) ?_) ?_) ?_) ?_) ?_) ?_) ?_) ?_) ?_) ?_) ?_) ?_) ?_) ?_) ?_) ?_) ?_) ?_
  · kernel_rfl
  · exact clo_laid
  · kernel_rfl
  · kernel_rfl
  · kernel_rfl
  · kernel_rfl
  · kernel_rfl
  · kernel_rfl
  · kernel_rfl
  · exact fnExactBestReply_c9
  · exact fnExactBestReply_c10
  · exact fnExactBestReply_c11
  · exact fnExactBestReply_c12
  · kernel_rfl
  · kernel_rfl
  · kernel_rfl
  · kernel_rfl
  · kernel_rfl
  · kernel_rfl
  · kernel_rfl
  · kernel_rfl
  · kernel_rfl
  · kernel_rfl
  · kernel_rfl
  · exact clo_hear
  · exact clo_enter
  · exact clo_lifts
  · exact clo_make
  · kernel_rfl
  · kernel_rfl
  · kernel_rfl
  · kernel_rfl
set_option maxRecDepth 100000 in
theorem fnExactBestReply_holds : Rows.FnExactBestReplySaid :=
  OpenClaim.holds_of_wide 3 Tryz.f3 rfl rfl rfl rfl rfl rfl rfl ⟨rfl, rfl, rfl, rfl, rfl⟩ rfl rfl rfl rfl rfl (by kernel_rfl) Tryz.func3 fnExactBestReply_closed
    (of_decide_eq_true (by kernel_rfl)) (by unfold Func.isWrapper; first | (rw [if_pos (by decide +kernel)]; kernel_rfl) | (rw [if_neg (by decide +kernel)]; exact ⟨rfl, rfl⟩))
    (fun os started H enc _ => fnExactBestReply_lifted os started H enc)
#print axioms fnExactBestReply_holds
end

end Go.Proofs.YtafdedgckbhhjaaGreat
