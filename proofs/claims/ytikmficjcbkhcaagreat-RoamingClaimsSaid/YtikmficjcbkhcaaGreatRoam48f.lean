/- What a party has that another one has. -/
import Derived.Test.YtikmficjcbkhcaaGreatRoam48e
namespace Go.Proofs.YtikmficjcbkhcaaGreat
set_option linter.all false
open Go.Idl
set_option maxHeartbeats 4000000
set_option maxRecDepth 100000
attribute [local go_sem] agPty agCdr eqDis agDir agObj eqItm Tryz.underlying3 Tryz.underlying5 Tryz.underlying9 Tryz.underlying4
def sameAt {α : Type} (eq : α → α → Bool) (x : α) : Option α → Bool
  | some o => eq x o
  | none => false
end Go.Proofs.YtikmficjcbkhcaaGreat
