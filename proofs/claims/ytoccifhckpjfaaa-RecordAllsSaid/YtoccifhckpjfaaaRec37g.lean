/- Records: Offline changes only Offline. -/
import Derived.Test.YtoccifhckpjfaaaRec37f
namespace Go.Proofs.Ytoccifhckpjfaaa
set_option linter.all false
open Go.Idl
set_option maxHeartbeats 16000000
set_option maxRecDepth 100000
attribute [local go_sem] agRec Try.underlying3 Try.underlying5 Try.underlying9 Try.underlying4 Try.underlying30 Try.underlying22 Try.underlying25
def setO (b : Bool) (e : EvD) : EvD := ⟨e.station, e.txn, e.conn, e.seq, e.kind, e.time, e.token, b, e.reason, e.rds⟩
structure OffR (b : Bool) (r x : RecD × Int) : Prop where
  err : r.2 = x.2
  same : sameRec r.1 x.1 = true
  off : r.2 = 0 → r.1.offline = false ∧ x.1.offline = b
theorem OffR.bad (b : Bool) {f : Int} (h : f ≠ 0) : OffR b (zeroR, f) (zeroR, f) := ⟨rfl, sameRec_self _, fun h0 => absurd h0 h⟩
end Go.Proofs.Ytoccifhckpjfaaa
