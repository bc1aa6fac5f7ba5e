/- The chapter's examples, run. -/
import Derived.Test.YtkgjifofpejanaaCodes
namespace Go.Proofs.Ytkgjifofpejanaa
set_option linter.all false
open Go.Idl
def fns : List Nat := (List.range 40).drop 3
theorem fns_ok : fns.all (fnOk Try.prog) = true := by kernel_rfl
theorem awake_run : runFn Try.prog (Runs Try.prog fns (fun _ => none) 1000 10) 1000 8 [] = some (.sc (.bool true)) := by kernel_rfl
theorem good0 : Idl.Good Try.prog (fun _ => none) := good_none (by kernel_rfl)
theorem conAw : Contract Try.prog 8 (FT fun (_ : Unit) => some true) := aw_of (runFn_contract (Runs_good good0 fns_ok 1000 10) (List.all_eq_true.1 fns_ok _ (by decide)) 1000) awake_run
end Go.Proofs.Ytkgjifofpejanaa
