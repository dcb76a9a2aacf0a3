/- Layer 51: the closed facts of the row about the specification. -/
import Derived.Test.YtlflddcbfbdldaaGreatDoorTS
namespace Go.Proofs.YtlflddcbfbdldaaGreatDoor
open Go Go.Ab Go.ChangeShapes Go.WideShapes Go.RowKit
theorem jS_named : Tryz.pinned.checked.prog.funcNamed Rows.offlineSpecRow.func = some 3 := by kernel_rfl
theorem jS_joined : joinedFacts Tryz.prog 3 Tryz.f3 Rows.offlineSpecSpec Rows.offlineSpecRow = true := by kernel_rfl
end Go.Proofs.YtlflddcbfbdldaaGreatDoor
