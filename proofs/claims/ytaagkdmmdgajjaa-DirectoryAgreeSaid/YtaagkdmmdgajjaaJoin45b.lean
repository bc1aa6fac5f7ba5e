/- The contracts of directories, and what is read of the arguments. -/
import Derived.Test.YtaagkdmmdgajjaaJoin45
import Derived.Test.YtaagkdmmdgajjaaLaw45e
namespace Go.Proofs.Ytaagkdmmdgajjaa
set_option linter.all false
open Go.Idl
theorem ops_ok {l : List OpD} (h : okL OpD.ok l) : l.length ≤ 9223372036854775807 ∧ l.all (fun x => decide (x.objects.length ≤ 9223372036854775807)) = true := by
  refine ⟨h.1, ?_⟩
  simp only [List.all_eq_true, decide_eq_true_eq]
  intro x hx
  exact (h.2 x hx).2.1
end Go.Proofs.Ytaagkdmmdgajjaa
