/- Records: the order of the events has no effect. -/
import Derived.Test.YtoccifhckpjfaaaRec37p
namespace Go.Proofs.Ytoccifhckpjfaaa
set_option linter.all false
open Go.Idl Go.Idl.Stab
set_option maxHeartbeats 16000000
set_option maxRecDepth 100000
attribute [local go_sem] agRec Try.underlying3 Try.underlying5 Try.underlying9 Try.underlying4 Try.underlying30 Try.underlying22 Try.underlying25
end Go.Proofs.Ytoccifhckpjfaaa
