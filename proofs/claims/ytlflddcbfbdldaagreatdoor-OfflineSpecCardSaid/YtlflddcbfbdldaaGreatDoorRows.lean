/-
  NARROWER THAN 'FOR EVERY INPUT', by the rows' own cells (each row's printed sentence says how): OfflineSpec: laid · OfflineMerge: laid.
  DERIVED. THE GIVEN ROWS OF THIS SEAT. 2 by the template 'for every input the law returns true; each argument reads behind the call as it read before'; 0 by the template 'total and deterministic' (their statements: YtlflddcbfbdldaaGreatDoorTotals.lean).
  GIVEN WITH THE SEED: the statements are not yours to turn. If you find one false, say at which input.
  Laid BY PROGRAM, IN A SANDBOX (cutbox-rows.mjs): the forced cells as the released guide's own fill.sh prints them over the translation ee44b23af4343d96… (all of the seat's roots in one cut). By AI agents, Wed Nov 11 2026. No macro, syntax, notation, axiom, sorry.
-/
import Derived.Test.YtlflddcbfbdldaaGreatDoorChecked
import GoSem.Claim
import GoSem.ClaimJoined
import GoSem.ClaimMapViews
import Derived.JoinedTies
import Derived.KernelRfl
namespace Go.Proofs.YtlflddcbfbdldaaGreatDoor
/- THE CELL 'sum', in the pinned program and in every row, IS THE sha256 OF THE DUMP (.gsa) THAT YtlflddcbfbdldaaGreatDoorProg.lean LOADS. Nothing in Lean hashes anything: it is a label: what it is worth is what the hold of that sum in a sandbox is worth. -/
noncomputable def Tryz.pinned : Pinned := { name := "ytlflddcbfbdldaagreatdoor", sum := "ee44b23af4343d96a66095d0b74f878c7e362736e21876d697a5a6165ebec566", checked := Tryz.checked }
namespace Rows
def none {H : Type} : Left H := { results := [], args := [] }

/- WHAT THE LISTED PACKAGE-LEVEL VARIABLES READ AS WHEN THE CALL BEGINS. Each datum BY PROGRAM (the guide's laid-datum.mjs) off the statement by which the dump's own 'gosem.cut.vars' lays the variable. In a bare row this is a premise. The card (YtlflddcbfbdldaaGreatDoorCards.lean) ties it to the program's text. -/
def laid_fasti_days_lengths {H : Type} : DataW H := .agg [.lit (.int .i64 31), .lit (.int .i64 29), .lit (.int .i64 31), .lit (.int .i64 30), .lit (.int .i64 31), .lit (.int .i64 30), .lit (.int .i64 31), .lit (.int .i64 31), .lit (.int .i64 30), .lit (.int .i64 31), .lit (.int .i64 30), .lit (.int .i64 31)]
def laid_fasti_facts_rows {H : Type} : DataW H := .agg [.agg [.lit (.int .i64 0), .lit (.int .i64 0), .lit (.int .i64 0), .lit (.int .i64 0), .agg [.lit (.int .i64 0), .lit (.int .i64 0)], .agg [.lit (.int .i64 0), .lit (.int .i64 0)]], .agg [.lit (.int .i64 0), .lit (.int .i64 1023), .lit (.int .i64 0), .lit (.int .i64 0), .agg [.lit (.int .i64 0), .lit (.int .i64 99)], .agg [.lit (.int .i64 0), .lit (.int .i64 99)]], .agg [.lit (.int .i64 0), .lit (.int .i64 0), .lit (.int .i64 63), .lit (.int .i64 73048), .agg [.lit (.int .i64 1), .lit (.int .i64 512)], .agg [.lit (.int .i64 0), .lit (.int .i64 0)]], .agg [.lit (.int .i64 63), .lit (.int .i64 0), .lit (.int .i64 0), .lit (.int .i64 73048), .agg [.lit (.int .i64 1), .lit (.int .i64 512)], .agg [.lit (.int .i64 0), .lit (.int .i64 0)]], .agg [.lit (.int .i64 0), .lit (.int .i64 0), .lit (.int .i64 0), .lit (.int .i64 73048), .agg [.lit (.int .i64 1), .lit (.int .i64 512)], .agg [.lit (.int .i64 0), .lit (.int .i64 1440)]], .agg [.lit (.int .i64 63), .lit (.int .i64 0), .lit (.int .i64 0), .lit (.int .i64 73048), .agg [.lit (.int .i64 0), .lit (.int .i64 0)], .agg [.lit (.int .i64 0), .lit (.int .i64 0)]], .agg [.lit (.int .i64 0), .lit (.int .i64 1023), .lit (.int .i64 0), .lit (.int .i64 0), .agg [.lit (.int .i64 0), .lit (.int .i64 73048)], .agg [.lit (.int .i64 0), .lit (.int .i64 15)]]]

/-- 'fastilaw51.OfflineSpec': WHATEVER THE INPUT: true; the input reads as it did. -/
def offlineSpecSpec : ChangeSpec := { name := "offlineSpec", fn := fun _ => fun
  | [d1, d2, d3, d4] => { results := [.lit (.bool true)], args := [d1, d2, d3, d4] }
  | _ => none }
def offlineSpecRow : OpenClaim := { program := "ytlflddcbfbdldaagreatdoor", sum := "ee44b23af4343d96a66095d0b74f878c7e362736e21876d697a5a6165ebec566", func := "fasti/fastilaw51.OfflineSpec", spec := "offlineSpec", inPlace := ["internal/bytealg.IndexByteString", "internal/bytealg.IndexString"], unfollowed := true, recurses := true, named := ["internal/bytealg.MaxLen", "fasti/days.lengths", "fasti/facts.rows"], plainKeys := false, apart := false, laid := [("fasti/days.lengths", laid_fasti_days_lengths), ("fasti/facts.rows", laid_fasti_facts_rows)] }
def OfflineSpecSaid : Prop := offlineSpecRow.holds Tryz.pinned (OpenSpec.ofChange offlineSpecSpec)

/-- ITS FALSE NEIGHBOUR: 'it returns false'. Refute it at one input. -/
def offlineSpecWrong : ChangeSpec := { name := "offlineSpec", fn := fun _ => fun
  | [d1, d2, d3, d4] => { results := [.lit (.bool false)], args := [d1, d2, d3, d4] }
  | _ => none }
def OfflineSpecWrongFalsely : Prop := offlineSpecRow.holds Tryz.pinned (OpenSpec.ofChange offlineSpecWrong)

/-- 'fastilaw51.OfflineMerge': WHATEVER THE INPUT: true; the input reads as it did. -/
def offlineMergeSpec : ChangeSpec := { name := "offlineMerge", fn := fun _ => fun
  | [d1, d2, d3, d4, d5] => { results := [.lit (.bool true)], args := [d1, d2, d3, d4, d5] }
  | _ => none }
def offlineMergeRow : OpenClaim := { program := "ytlflddcbfbdldaagreatdoor", sum := "ee44b23af4343d96a66095d0b74f878c7e362736e21876d697a5a6165ebec566", func := "fasti/fastilaw51.OfflineMerge", spec := "offlineMerge", inPlace := ["internal/bytealg.IndexByteString", "internal/bytealg.IndexString"], unfollowed := true, recurses := true, named := ["internal/bytealg.MaxLen", "fasti/days.lengths", "fasti/facts.rows"], plainKeys := false, apart := false, laid := [("fasti/days.lengths", laid_fasti_days_lengths), ("fasti/facts.rows", laid_fasti_facts_rows)] }
def OfflineMergeSaid : Prop := offlineMergeRow.holds Tryz.pinned (OpenSpec.ofChange offlineMergeSpec)

/-- ITS FALSE NEIGHBOUR: 'it returns false'. Refute it at one input. -/
def offlineMergeWrong : ChangeSpec := { name := "offlineMerge", fn := fun _ => fun
  | [d1, d2, d3, d4, d5] => { results := [.lit (.bool false)], args := [d1, d2, d3, d4, d5] }
  | _ => none }
def OfflineMergeWrongFalsely : Prop := offlineMergeRow.holds Tryz.pinned (OpenSpec.ofChange offlineMergeWrong)

/- THE SECOND FORM. 'bulk': how many values and letters a reading holds, each counted each time it is reached (what is shared counts as often as it is met; a slice's spare places count too). A statement '..UptoSaid' is the law's where the arguments, and the package variables that the reading takes, are together of bulk at most 1048576: NARROWER than '..Said'. Prove '..Said' where nothing that the law and all that it calls make is longer than what came in: it says more and counts as full. Else prove '..UptoSaid'. A law counts once. -/
mutual
def uptoBulk {H : Type} : DataW H → Nat
  | .lit (.string bytes) => bytes.length + 1
  | .lit _ => 1
  | .nil => 1
  | .ptr d => uptoBulk d + 1
  | .slice elems spare => uptoBulkAll elems + uptoBulkAll spare + 1
  | .agg parts => uptoBulkAll parts + 1
  | .iface _ d => uptoBulk d + 1
  | .map entries => uptoBulkEntries entries + 1
  | .held _ => 1
def uptoBulkAll {H : Type} : List (DataW H) → Nat
  | [] => 0
  | d :: r => uptoBulk d + uptoBulkAll r
def uptoBulkEntries {H : Type} : List (Lit × DataW H) → Nat
  | [] => 0
  | x :: r => uptoBulkEntry x + uptoBulkEntries r
def uptoBulkEntry {H : Type} : Lit × DataW H → Nat
  | (.string bytes, d) => bytes.length + uptoBulk d + 1
  | (_, d) => uptoBulk d + 1
 end
def uptoSmall : (H : Type) → List (DataW H) → Bool := fun _ ds => decide (uptoBulkAll ds ≤ 1048576)
def OpenSpec.upto (s : _root_.Go.ChangeSpec) : _root_.Go.OpenSpec := { _root_.Go.OpenSpec.ofChange s with cond := some uptoSmall }

/-- 'fastilaw51.OfflineSpec', WHERE WHAT IT READS IS OF BULK AT MOST 1048576: true; the input reads as it did. -/
def offlineSpecUptoRow : OpenClaim := { program := "ytlflddcbfbdldaagreatdoor", sum := "ee44b23af4343d96a66095d0b74f878c7e362736e21876d697a5a6165ebec566", func := "fasti/fastilaw51.OfflineSpec", spec := "offlineSpec", inPlace := ["internal/bytealg.IndexByteString", "internal/bytealg.IndexString"], unfollowed := true, recurses := true, named := ["internal/bytealg.MaxLen", "fasti/days.lengths", "fasti/facts.rows"], plainKeys := false, apart := false, laid := [("fasti/days.lengths", laid_fasti_days_lengths), ("fasti/facts.rows", laid_fasti_facts_rows)], narrowed := true }
def OfflineSpecUptoSaid : Prop := offlineSpecUptoRow.holds Tryz.pinned (OpenSpec.upto offlineSpecSpec)

/-- 'fastilaw51.OfflineMerge', WHERE WHAT IT READS IS OF BULK AT MOST 1048576: true; the input reads as it did. -/
def offlineMergeUptoRow : OpenClaim := { program := "ytlflddcbfbdldaagreatdoor", sum := "ee44b23af4343d96a66095d0b74f878c7e362736e21876d697a5a6165ebec566", func := "fasti/fastilaw51.OfflineMerge", spec := "offlineMerge", inPlace := ["internal/bytealg.IndexByteString", "internal/bytealg.IndexString"], unfollowed := true, recurses := true, named := ["internal/bytealg.MaxLen", "fasti/days.lengths", "fasti/facts.rows"], plainKeys := false, apart := false, laid := [("fasti/days.lengths", laid_fasti_days_lengths), ("fasti/facts.rows", laid_fasti_facts_rows)], narrowed := true }
def OfflineMergeUptoSaid : Prop := offlineMergeUptoRow.holds Tryz.pinned (OpenSpec.upto offlineMergeSpec)

end Rows
end Go.Proofs.YtlflddcbfbdldaaGreatDoor
