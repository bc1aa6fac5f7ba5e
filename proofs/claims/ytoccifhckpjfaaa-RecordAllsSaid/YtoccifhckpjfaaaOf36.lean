/- The events of a transaction. -/
import Derived.Test.YtoccifhckpjfaaaPut36b
namespace Go.Proofs.Ytoccifhckpjfaaa
set_option linter.all false
open Go.Idl
set_option maxHeartbeats 4000000
set_option maxRecDepth 100000
attribute [local go_sem] Try.underlying3 Try.underlying79 Try.underlying9 Try.underlying4
end Go.Proofs.Ytoccifhckpjfaaa
