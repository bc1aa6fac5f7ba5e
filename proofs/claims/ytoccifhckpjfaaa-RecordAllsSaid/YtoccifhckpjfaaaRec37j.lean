/- Records: RecordUpdates. -/
import Derived.Test.YtoccifhckpjfaaaRec37i
namespace Go.Proofs.Ytoccifhckpjfaaa
set_option linter.all false
open Go.Idl
set_option maxHeartbeats 16000000
set_option maxRecDepth 100000
attribute [local go_sem] agRec Try.underlying3 Try.underlying5 Try.underlying9 Try.underlying4 Try.underlying30 Try.underlying22 Try.underlying25
end Go.Proofs.Ytoccifhckpjfaaa
