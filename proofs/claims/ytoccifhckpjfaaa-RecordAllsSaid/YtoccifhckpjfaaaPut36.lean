/- Events by their keys; copies; putting an event into a collection. -/
import Derived.Test.YtoccifhckpjfaaaBounds
namespace Go.Proofs.Ytoccifhckpjfaaa
set_option linter.all false
open Go.Idl
set_option maxHeartbeats 4000000
set_option maxRecDepth 100000
attribute [local go_sem] Try.underlying3 Try.underlying79 Try.underlying9
theorem isF_vals (m : List (KeyD × EvD)) : (valsM m).all V.isF = true := by
  simp only [valsM, List.all_map, List.all_eq_true]
  intro x _
  rfl
theorem low_evs (n : Nat) (l : List EvD) : (l.map Cod.enc).all (V.low n) = true := by
  simp only [List.all_map, List.all_eq_true]
  intro x _
  rfl
theorem isF_evs (l : List EvD) : (l.map Cod.enc).all V.isF = true := by
  simp only [List.all_map, List.all_eq_true]
  intro x _
  rfl
end Go.Proofs.Ytoccifhckpjfaaa
