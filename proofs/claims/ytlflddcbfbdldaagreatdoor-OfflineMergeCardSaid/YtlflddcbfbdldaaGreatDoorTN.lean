/- Layer 51: the closed facts of the row about merging. -/
import Derived.Test.YtlflddcbfbdldaaGreatDoorTM
namespace Go.Proofs.YtlflddcbfbdldaaGreatDoor
open Go Go.Ab Go.ChangeShapes Go.WideShapes Go.RowKit
theorem j_named : Tryz.pinned.checked.prog.funcNamed Rows.offlineMergeRow.func = some 4 := by kernel_rfl
theorem j_joined : joinedFacts Tryz.prog 4 Tryz.f4 Rows.offlineMergeSpec Rows.offlineMergeRow = true := by kernel_rfl
end Go.Proofs.YtlflddcbfbdldaaGreatDoor
