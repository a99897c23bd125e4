import Derived.Test.YtljcgcllhcdleaaProg
import Derived.ProofKit
import Derived.OpenShut
/- Two closed facts of the program. -/
namespace Go.Proofs.Ytljcgcllhcdleaa
open Go
theorem Try.own : ownKnob Try.prog.godebug = none := by kernel_rfl
theorem Try.laidOut : laidOutB Try.prog = true := by kernel_rfl
end Go.Proofs.Ytljcgcllhcdleaa
