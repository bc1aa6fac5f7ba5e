/- Claim, and both by the reference. -/
import Derived.Test.YtikmficjcbkhcaaRoam48k
namespace Go.Proofs.Ytikmficjcbkhcaa
set_option linter.all false
open Go.Idl
set_option maxHeartbeats 8000000
set_option maxRecDepth 100000
attribute [local go_sem] agPty agCdr eqDis agDir agObj eqItm Try.underlying3 Try.underlying5 Try.underlying9 Try.underlying4
end Go.Proofs.Ytikmficjcbkhcaa
