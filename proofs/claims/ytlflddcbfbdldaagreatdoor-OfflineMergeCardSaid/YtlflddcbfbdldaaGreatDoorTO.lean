/- OfflineMerge (layer 51) is proved: for all receipts, Merge is commutative, associative and idempotent, and nothing changes what was held at a moment, except for receipts that are added.
   Conditions: at most 1000 receipts in each list (beyond that the statement returns true); the package variables that the card lists hold what the program's text lays. -/
import Derived.Test.YtlflddcbfbdldaaGreatDoorTN
import Derived.SevenTiedAt
namespace Go.Proofs.YtlflddcbfbdldaaGreatDoor
open Go Go.Ab Go.ChangeShapes Go.WideShapes Go.RowKit
theorem j_inst : Tryz.f4.isInstance Tryz.pinned.checked.prog Rows.offlineMergeRow.origin Rows.offlineMergeRow.targs := of_decide_eq_true (by kernel_rfl)
theorem j_wrap : Tryz.f4.isWrapper Tryz.pinned.checked.prog Rows.offlineMergeRow.wrapper Rows.offlineMergeRow.mainSum := by
  unfold Func.isWrapper; rw [if_neg (of_decide_eq_false (by kernel_rfl))]; exact ⟨rfl, rfl⟩
theorem offlineMerge_row : Rows.OfflineMergeSaid :=
  OpenClaim.holds_of_wide 4 Tryz.f4 rfl rfl rfl rfl rfl rfl rfl ⟨rfl, rfl, rfl, rfl, rfl⟩ rfl rfl rfl rfl rfl j_named Tryz.func4 j_joined j_inst j_wrap
    (fun os started H enc _ => lifted os started H enc)
theorem j_text : Rows.offlineMergeRow.wfByText (OpenSpec.ofChange Rows.offlineMergeSpec) = true := by kernel_rfl
theorem j_main : Tryz.pinned.checked.prog.mainIs = some ((true, "a9b16438904f20d4be3b58edaf1aade6743bf56de652b4c2c717195b28ca8411").1, (true, "a9b16438904f20d4be3b58edaf1aade6743bf56de652b4c2c717195b28ca8411").2.toList) := by kernel_rfl
theorem j_looks : true = Tryz.pinned.checked.prog.looks [] := by kernel_rfl
theorem j_goes : false = Rows.offlineMergeRow.goesBy Tryz.pinned.checked.prog := by kernel_rfl
theorem offlineMerge_holds : Rows.OfflineMergeCardSaid :=
  Claim7.holds_tied_plain_at .later [] [.widerDeep, .data] true (true, "a9b16438904f20d4be3b58edaf1aade6743bf56de652b4c2c717195b28ca8411") true
    offlineMerge_row (fun _ h => by cases h) j_text (fun _ h => by cases h) offlineMerge_row_tie rfl ⟨rfl, rfl⟩ j_main rfl
    (fun f fn hf hfn => by
      obtain rfl : f = 4 := Option.some.inj (j_named.symm.trans hf) |>.symm
      obtain rfl : fn = Tryz.f4 := (Option.some.inj (Tryz.func4.symm.trans hfn)).symm
      exact ⟨j_looks, fun j t ht => by
        rw [Tryz.params4] at ht
        have hm : t ∈ pts := by simpa [pts] using Array.mem_of_getElem? ht
        have hall : (pts.all fun u => !Tryz.prog.wantsStandIn u) = true := by kernel_rfl
        exact (show Tryz.prog.wantsStandIn t = false by simpa using List.all_eq_true.1 hall t hm)⟩)
    j_goes
#print axioms offlineMerge_holds
end Go.Proofs.YtlflddcbfbdldaaGreatDoor
