/- FnExactAbstainGain answers true at every input. -/
import Derived.Test.YtblkbdfndbpndaaGreatAbsLawW
import Derived.Test.YtblkbdfndbpndaaGreatClo
namespace Go.Proofs.YtblkbdfndbpndaaGreat
open Go.RowKit

section
open Go.ChangeShapes Go.WideShapes Go.ChangeAt Go.RowKit Go.Joins Go.Deep
set_option maxRecDepth 100000 in
theorem fnExactAbstainGain_c9 : (Rows.fnExactAbstainGainRow.inPlace == Tryz.pinned.checked.prog.inPlace 7) = true := by kernel_rfl
set_option maxRecDepth 100000 in
theorem fnExactAbstainGain_c10 : (Rows.fnExactAbstainGainRow.unfollowed == Tryz.pinned.checked.prog.unfollowed 7) = true := by kernel_rfl
set_option maxRecDepth 100000 in
theorem fnExactAbstainGain_c11 : (Rows.fnExactAbstainGainRow.recurses == Tryz.pinned.checked.prog.recurses 7) = true := by kernel_rfl
set_option maxRecDepth 100000 in
theorem fnExactAbstainGain_c12 : (Rows.fnExactAbstainGainRow.named == Tryz.pinned.checked.prog.varsNamed 7) = true := by kernel_rfl
set_option maxRecDepth 100000 in
theorem fnExactAbstainGain_closed : joinedFacts Tryz.pinned.checked.prog 7 Tryz.f7 Rows.fnExactAbstainGainSpec Rows.fnExactAbstainGainRow = true := by
  unfold joinedFacts
  refine band (band (band (band (band (band (band (band (band (band (band (band (band (band (band (band (band (band (band (band (band (band (band (band (band (band (band (band (band (band (band ?_ ?_) ?_) ?_) ?_) ?_) ?_) ?_) ?_) ?_) ?_) ?_) ?_) ?_) ?_) ?_) ?_) ?_) ?_) ?_) ?_) ?_) ?_) ?_) ?_) ?_) ?_) ?_) ?_) ?_) ?_) ?_
  · kernel_rfl
  · exact clo_laid
  · kernel_rfl
  · kernel_rfl
  · kernel_rfl
  · kernel_rfl
  · kernel_rfl
  · kernel_rfl
  · kernel_rfl
  · exact fnExactAbstainGain_c9
  · exact fnExactAbstainGain_c10
  · exact fnExactAbstainGain_c11
  · exact fnExactAbstainGain_c12
  · kernel_rfl
  · kernel_rfl
  · kernel_rfl
  · kernel_rfl
  · kernel_rfl
  · kernel_rfl
  · kernel_rfl
  · kernel_rfl
  · kernel_rfl
  · kernel_rfl
  · kernel_rfl
  · exact clo_hear
  · exact clo_enter
  · exact clo_lifts
  · exact clo_make
  · kernel_rfl
  · kernel_rfl
  · kernel_rfl
  · kernel_rfl
set_option maxRecDepth 100000 in
theorem fnExactAbstainGain_holds : Rows.FnExactAbstainGainSaid :=
  OpenClaim.holds_of_wide 7 Tryz.f7 rfl rfl rfl rfl rfl rfl rfl ⟨rfl, rfl, rfl, rfl, rfl⟩ rfl rfl rfl rfl rfl (by kernel_rfl) Tryz.func7 fnExactAbstainGain_closed
    (of_decide_eq_true (by kernel_rfl)) (by unfold Func.isWrapper; first | (rw [if_pos (by decide +kernel)]; kernel_rfl) | (rw [if_neg (by decide +kernel)]; exact ⟨rfl, rfl⟩))
    (fun os started H enc _ => fnExactAbstainGain_lifted os started H enc)
#print axioms fnExactAbstainGain_holds
end

end Go.Proofs.YtblkbdfndbpndaaGreat
