/- Putting an object into a directory. -/
import Derived.Test.YtikmficjcbkhcaaGreatDir45g
namespace Go.Proofs.YtikmficjcbkhcaaGreat
set_option linter.all false
open Go.Idl
set_option maxHeartbeats 4000000
set_option maxRecDepth 100000
attribute [local go_sem] agObj agDir agOK agSh Tryz.underlying3 Tryz.underlying5 Tryz.underlying9
theorem isF_ints (l : List Int) : (l.map Cod.enc).all V.isF = true := by
  simp only [List.all_map, List.all_eq_true]
  intro x _
  rfl
end Go.Proofs.YtikmficjcbkhcaaGreat
