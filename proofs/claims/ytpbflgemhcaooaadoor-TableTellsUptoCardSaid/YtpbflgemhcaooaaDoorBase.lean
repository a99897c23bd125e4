import Derived.Test.YtpbflgemhcaooaaDoorProg
import Derived.ProofKit
import Derived.OpenShut
/- Two closed facts of the program. -/
namespace Go.Proofs.YtpbflgemhcaooaaDoor
open Go
theorem Tryd.own : ownKnob Tryd.prog.godebug = none := by kernel_rfl
theorem Tryd.laidOut : laidOutB Tryd.prog = true := by kernel_rfl
end Go.Proofs.YtpbflgemhcaooaaDoor
