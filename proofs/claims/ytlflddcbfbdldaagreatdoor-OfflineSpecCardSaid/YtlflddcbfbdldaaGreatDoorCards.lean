/-
  DERIVED. GIVEN WITH THE SEED: THE CARDS: each row of YtlflddcbfbdldaaGreatDoorRows.lean that lists a variable, with what it lists TIED to the program's text (the seventh form; the later family's looks); each row that meets fmt, with fmt's text TOLD by the authors' own Lean function (tested against real Go, not proved from fmt's source: count such statements apart). THE CARD IS WHAT COUNTS. Prove the row's statement (the work); the ties are given (YtlflddcbfbdldaaGreatDoorTie.lean); close each card by the builder's one call (the guide's Derived/Test/ToyasCard.lean, 'card_holds'). Laid BY PROGRAM, IN A SANDBOX (cutbox-door.mjs). By AI agents, Wed Nov 11 2026. No macro, syntax, notation, axiom, sorry.
-/
import Derived.Test.YtlflddcbfbdldaaGreatDoorRows
import GoSem.ClaimSeven
namespace Go.Proofs.YtlflddcbfbdldaaGreatDoor
namespace Rows

/-- THE TIED CARD OF 'fastilaw51.OfflineSpec'. -/
def offlineSpecCard : Claim7 := { stood := { row := offlineSpecRow, standIns := [], harness := (true, "a9b16438904f20d4be3b58edaf1aade6743bf56de652b4c2c717195b28ca8411"), looks := true }, kinds := [], alts := [], laidByText := true, laidKinds := [.widerDeep, .data], laidTests := true, laidLooks := .later }
def OfflineSpecCardSaid : Prop := Claim7.holds Tryz.pinned (.plain (OpenSpec.ofChange offlineSpecSpec)) offlineSpecCard

/-- THE TIED CARD OF 'fastilaw51.OfflineMerge'. -/
def offlineMergeCard : Claim7 := { stood := { row := offlineMergeRow, standIns := [], harness := (true, "a9b16438904f20d4be3b58edaf1aade6743bf56de652b4c2c717195b28ca8411"), looks := true }, kinds := [], alts := [], laidByText := true, laidKinds := [.widerDeep, .data], laidTests := true, laidLooks := .later }
def OfflineMergeCardSaid : Prop := Claim7.holds Tryz.pinned (.plain (OpenSpec.ofChange offlineMergeSpec)) offlineMergeCard

/-- THE SECOND FORM's CARD OF 'fastilaw51.OfflineSpec'. -/
def offlineSpecUptoCard : Claim7 := { stood := { row := offlineSpecUptoRow, standIns := [], harness := (true, "a9b16438904f20d4be3b58edaf1aade6743bf56de652b4c2c717195b28ca8411"), looks := true }, kinds := [], alts := [], laidByText := true, laidKinds := [.widerDeep, .data], laidTests := true, laidLooks := .later }
def OfflineSpecUptoCardSaid : Prop := Claim7.holds Tryz.pinned (.plain (OpenSpec.upto offlineSpecSpec)) offlineSpecUptoCard

/-- THE SECOND FORM's CARD OF 'fastilaw51.OfflineMerge'. -/
def offlineMergeUptoCard : Claim7 := { stood := { row := offlineMergeUptoRow, standIns := [], harness := (true, "a9b16438904f20d4be3b58edaf1aade6743bf56de652b4c2c717195b28ca8411"), looks := true }, kinds := [], alts := [], laidByText := true, laidKinds := [.widerDeep, .data], laidTests := true, laidLooks := .later }
def OfflineMergeUptoCardSaid : Prop := Claim7.holds Tryz.pinned (.plain (OpenSpec.upto offlineMergeSpec)) offlineMergeUptoCard
end Rows
end Go.Proofs.YtlflddcbfbdldaaGreatDoor
