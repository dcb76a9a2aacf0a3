/- Layer 51: the examples with which the statements begin, run on abstract states. -/
import Derived.Test.YtlflddcbfbdldaaGreatDoorE2
namespace Go.Ab
open Go Go.Proofs
theorem sane_runs : runB Tryz.prog libA 3000 5 [] (.bool true) = true := by decide +kernel
theorem sane_fn : Fn1 Tryz.prog 5 [] (.bool true) := Fn1.run mix libA_sound sane_runs
end Go.Ab
