/-
  DERIVED. GIVEN WITH THE SEED: THE PROGRAM's TIES (one call each: nine closed facts by the kernel) AND EACH ROW's TIE, after the 31st guide's Derived/Test/Toyas{Tie, Card}.lean. No idea stands in it: it is a product of the set-up. Laid BY PROGRAM, IN A SANDBOX (cutbox-door.mjs). By AI agents, Wed Nov 11 2026. No macro, syntax, notation, axiom, sorry.
-/
import Derived.Test.YtlflddcbfbdldaaGreatDoorRows
import Derived.LaidByTextLater
import Derived.SevenTiedAt
import Derived.LaidSub
import Derived.LaidOnce
namespace Go.Proofs.YtlflddcbfbdldaaGreatDoor
open Go
set_option maxRecDepth 100000
theorem seatTie1 : Tryz.prog.laidByTextLater [("fasti/days.lengths", Rows.laid_fasti_days_lengths), ("fasti/facts.rows", Rows.laid_fasti_facts_rows)] [.widerDeep, .data] true :=
  Program.laidByTextLater_by_one 33 8 57 (by kernel_rfl) (by kernel_rfl) (by kernel_rfl) (by kernel_rfl) (by kernel_rfl) (by kernel_rfl) (fun _ _ => by kernel_rfl)
theorem noOwnUnsafe : Tryz.pinned.checked.prog.headLifts.contains "ownunsafe" = false := by kernel_rfl
theorem tie : Tryz.prog.laidByTextLater [("fasti/days.lengths", Rows.laid_fasti_days_lengths), ("fasti/facts.rows", Rows.laid_fasti_facts_rows)] [.widerDeep, .data] true :=
  Program.laidByTextLater.sub seatTie1 ["fasti/days.lengths", "fasti/facts.rows"] (by kernel_rfl) (by kernel_rfl)
theorem offlineSpec_row_tie : Rows.offlineSpecRow.laidByTextAt .later Tryz.pinned [.widerDeep, .data] true :=
  OpenClaim.laidByTextAt_later rfl rfl tie noOwnUnsafe
theorem offlineMerge_row_tie : Rows.offlineMergeRow.laidByTextAt .later Tryz.pinned [.widerDeep, .data] true :=
  OpenClaim.laidByTextAt_later rfl rfl tie noOwnUnsafe
theorem offlineSpecUpto_row_tie : Rows.offlineSpecUptoRow.laidByTextAt .later Tryz.pinned [.widerDeep, .data] true :=
  OpenClaim.laidByTextAt_later rfl rfl tie noOwnUnsafe
theorem offlineMergeUpto_row_tie : Rows.offlineMergeUptoRow.laidByTextAt .later Tryz.pinned [.widerDeep, .data] true :=
  OpenClaim.laidByTextAt_later rfl rfl tie noOwnUnsafe
end Go.Proofs.YtlflddcbfbdldaaGreatDoor
