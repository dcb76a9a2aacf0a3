/- OfflineSpec (layer 51) is proved: for all receipts, clubs and moments, valid or not, Held and Merge match the specification.
   Conditions: at most 5000 receipts in each list (beyond that the statement returns true); the package variables that the card lists hold what the program's text lays. -/
import Derived.Test.YtlflddcbfbdldaaGreatDoorTU
import Derived.SevenTiedAt
namespace Go.Proofs.YtlflddcbfbdldaaGreatDoor
open Go Go.Ab Go.ChangeShapes Go.WideShapes Go.RowKit
theorem jS_inst : Tryz.f3.isInstance Tryz.pinned.checked.prog Rows.offlineSpecRow.origin Rows.offlineSpecRow.targs := of_decide_eq_true (by kernel_rfl)
theorem jS_wrap : Tryz.f3.isWrapper Tryz.pinned.checked.prog Rows.offlineSpecRow.wrapper Rows.offlineSpecRow.mainSum := by
  unfold Func.isWrapper; rw [if_neg (of_decide_eq_false (by kernel_rfl))]; exact ⟨rfl, rfl⟩
theorem offlineSpec_row : Rows.OfflineSpecSaid :=
  OpenClaim.holds_of_wide 3 Tryz.f3 rfl rfl rfl rfl rfl rfl rfl ⟨rfl, rfl, rfl, rfl, rfl⟩ rfl rfl rfl rfl rfl jS_named Tryz.func3 jS_joined jS_inst jS_wrap
    (fun os started H enc _ => liftedS os started H enc)
theorem jS_text : Rows.offlineSpecRow.wfByText (OpenSpec.ofChange Rows.offlineSpecSpec) = true := by kernel_rfl
theorem jS_main : Tryz.pinned.checked.prog.mainIs = some ((true, "a9b16438904f20d4be3b58edaf1aade6743bf56de652b4c2c717195b28ca8411").1, (true, "a9b16438904f20d4be3b58edaf1aade6743bf56de652b4c2c717195b28ca8411").2.toList) := by kernel_rfl
theorem jS_looks : true = Tryz.pinned.checked.prog.looks [] := by kernel_rfl
theorem jS_goes : false = Rows.offlineSpecRow.goesBy Tryz.pinned.checked.prog := by kernel_rfl
theorem offlineSpec_holds : Rows.OfflineSpecCardSaid :=
  Claim7.holds_tied_plain_at .later [] [.widerDeep, .data] true (true, "a9b16438904f20d4be3b58edaf1aade6743bf56de652b4c2c717195b28ca8411") true
    offlineSpec_row (fun _ h => by cases h) jS_text (fun _ h => by cases h) offlineSpec_row_tie rfl ⟨rfl, rfl⟩ jS_main rfl
    (fun f fn hf hfn => by
      obtain rfl : f = 3 := Option.some.inj (jS_named.symm.trans hf) |>.symm
      obtain rfl : fn = Tryz.f3 := (Option.some.inj (Tryz.func3.symm.trans hfn)).symm
      exact ⟨jS_looks, fun j t ht => by
        rw [Tryz.params3] at ht
        have hm : t ∈ ptsS := by simpa [ptsS] using Array.mem_of_getElem? ht
        have hall : (ptsS.all fun u => !Tryz.prog.wantsStandIn u) = true := by kernel_rfl
        exact (show Tryz.prog.wantsStandIn t = false by simpa using List.all_eq_true.1 hall t hm)⟩)
    jS_goes
#print axioms offlineSpec_holds
end Go.Proofs.YtlflddcbfbdldaaGreatDoor
