/- Putting an event into a collection. -/
import Derived.Test.YtoccifhckpjfaaaPut36
import Derived.Test.YtoccifhckpjfaaaSame36
namespace Go.Proofs.Ytoccifhckpjfaaa
set_option linter.all false
open Go.Idl
set_option maxHeartbeats 4000000
set_option maxRecDepth 100000
attribute [local go_sem] Try.underlying3 Try.underlying79 Try.underlying9 Try.underlying4
end Go.Proofs.Ytoccifhckpjfaaa
