/- Closed facts of this seat's program. -/
import Derived.Test.YtfmeklgdaabooaaGreatDoorCn4
import Derived.JoinedOf
namespace Go.Proofs.YtfmeklgdaabooaaGreatDoor
open Go.RowKit

set_option maxRecDepth 100000 in
theorem band {a b : Bool} (ha : a = true) (hb : b = true) : (a && b) = true := by rw [ha, hb]; rfl
set_option maxRecDepth 100000 in
theorem clo_laid : laidOutB Tryz.pinned.checked.prog = true := by kernel_rfl
set_option maxRecDepth 100000 in
theorem clo_hear : Tryz.pinned.checked.prog.stopsHeard = true := by kernel_rfl
set_option maxRecDepth 100000 in
theorem clo_enter : Tryz.pinned.checked.prog.mayEnter = true := by kernel_rfl
set_option maxRecDepth 100000 in
theorem clo_lifts : (Rows.fnGainsRow.lifted == Tryz.pinned.checked.prog.liftsFinal) = true := by kernel_rfl
set_option maxRecDepth 100000 in
theorem clo_make : (Tryz.pinned.checked.prog.make == some Rows.fnGainsRow.make) = true := by kernel_rfl

end Go.Proofs.YtfmeklgdaabooaaGreatDoor
