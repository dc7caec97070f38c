/- FnExactMissesCondorcet answers true at every input. -/
import Derived.Test.YtblkbdfndbpndaaGreatMisCLawW
import Derived.Test.YtblkbdfndbpndaaGreatClo
namespace Go.Proofs.YtblkbdfndbpndaaGreat
open Go.RowKit

section
open Go.ChangeShapes Go.WideShapes Go.ChangeAt Go.RowKit Go.Joins Go.Deep
set_option maxRecDepth 100000 in
theorem fnExactMissesCondorcet_c9 : (Rows.fnExactMissesCondorcetRow.inPlace == Tryz.pinned.checked.prog.inPlace 6) = true := by kernel_rfl
set_option maxRecDepth 100000 in
theorem fnExactMissesCondorcet_c10 : (Rows.fnExactMissesCondorcetRow.unfollowed == Tryz.pinned.checked.prog.unfollowed 6) = true := by kernel_rfl
set_option maxRecDepth 100000 in
theorem fnExactMissesCondorcet_c11 : (Rows.fnExactMissesCondorcetRow.recurses == Tryz.pinned.checked.prog.recurses 6) = true := by kernel_rfl
set_option maxRecDepth 100000 in
theorem fnExactMissesCondorcet_c12 : (Rows.fnExactMissesCondorcetRow.named == Tryz.pinned.checked.prog.varsNamed 6) = true := by kernel_rfl
set_option maxRecDepth 100000 in
theorem fnExactMissesCondorcet_closed : joinedFacts Tryz.pinned.checked.prog 6 Tryz.f6 Rows.fnExactMissesCondorcetSpec Rows.fnExactMissesCondorcetRow = true := by
  unfold joinedFacts
  refine band (band (band (band (band (band (band (band (band (band (band (band (band (band (band (band (band (band (band (band (band (band (band (band (band (band (band (band (band (band (band ?_ ?_) ?_) ?_) ?_) ?_) ?_) ?_) ?_) ?_) ?_) ?_) ?_) ?_) ?_) ?_) ?_) ?_) ?_) ?_) ?_) ?_) ?_) ?_) ?_) ?_) ?_) ?_) ?_) ?_) ?_) ?_
  · kernel_rfl
  · exact clo_laid
  · kernel_rfl
  · kernel_rfl
  · kernel_rfl
  · kernel_rfl
  · kernel_rfl
  · kernel_rfl
  · kernel_rfl
  · exact fnExactMissesCondorcet_c9
  · exact fnExactMissesCondorcet_c10
  · exact fnExactMissesCondorcet_c11
  · exact fnExactMissesCondorcet_c12
  · kernel_rfl
  · kernel_rfl
  · kernel_rfl
  · kernel_rfl
  · kernel_rfl
  · kernel_rfl
  · kernel_rfl
  · kernel_rfl
  · kernel_rfl
  · kernel_rfl
  · kernel_rfl
  · exact clo_hear
  · exact clo_enter
  · exact clo_lifts
  · exact clo_make
  · kernel_rfl
  · kernel_rfl
  · kernel_rfl
  · kernel_rfl
set_option maxRecDepth 100000 in
theorem fnExactMissesCondorcet_holds : Rows.FnExactMissesCondorcetSaid :=
  OpenClaim.holds_of_wide 6 Tryz.f6 rfl rfl rfl rfl rfl rfl rfl ⟨rfl, rfl, rfl, rfl, rfl⟩ rfl rfl rfl rfl rfl (by kernel_rfl) Tryz.func6 fnExactMissesCondorcet_closed
    (of_decide_eq_true (by kernel_rfl)) (by unfold Func.isWrapper; first | (rw [if_pos (by decide +kernel)]; kernel_rfl) | (rw [if_neg (by decide +kernel)]; exact ⟨rfl, rfl⟩))
    (fun os started H enc _ => fnExactMissesCondorcet_lifted os started H enc)
#print axioms fnExactMissesCondorcet_holds
end

end Go.Proofs.YtblkbdfndbpndaaGreat
