/- To agree, in plain words. -/
import Derived.Test.YtikmficjcbkhcaaGreatRoam48h
namespace Go.Proofs.YtikmficjcbkhcaaGreat
set_option linter.all false
open Go.Idl
set_option maxHeartbeats 1000000
end Go.Proofs.YtikmficjcbkhcaaGreat
