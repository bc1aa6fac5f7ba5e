/- Putting an object into a directory. -/
import Derived.Test.YtalhbhbkdfmhgaaDir45g
namespace Go.Proofs.Ytalhbhbkdfmhgaa
set_option linter.all false
open Go.Idl
set_option maxHeartbeats 4000000
set_option maxRecDepth 100000
attribute [local go_sem] agObj agDir agOK agSh Try.underlying3 Try.underlying5 Try.underlying9
theorem isF_ints (l : List Int) : (l.map Cod.enc).all V.isF = true := by
  simp only [List.all_map, List.all_eq_true]
  intro x _
  rfl
end Go.Proofs.Ytalhbhbkdfmhgaa
