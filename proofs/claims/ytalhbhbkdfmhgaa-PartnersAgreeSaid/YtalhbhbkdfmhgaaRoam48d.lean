/- Equal directories and parties. -/
import Derived.Test.YtalhbhbkdfmhgaaRoam48c
import Derived.Test.YtalhbhbkdfmhgaaDir45g
namespace Go.Proofs.Ytalhbhbkdfmhgaa
set_option linter.all false
open Go.Idl
set_option maxHeartbeats 4000000
set_option maxRecDepth 100000
attribute [local go_sem] agPty agCdr agDis eqDis agDir agObj eqItm Try.underlying3 Try.underlying5 Try.underlying9 Try.underlying4
def okIt (l : List CdrD) : Bool := l.all fun c => decide (c.items.length ≤ 1000000)
theorem okIt_mem {l : List CdrD} (h : okIt l = true) {c : CdrD} (hc : c ∈ l) : c.items.length ≤ 1000000 := by
  rw [okIt, List.all_eq_true] at h
  simpa using h c hc
def okS (p : PartyD) : Bool := okP p && okIt p.cdrs
theorem okS_iff {p : PartyD} : okS p = true ↔ OkP p ∧ okIt p.cdrs = true := by rw [okS, Bool.and_eq_true, okP_iff]
end Go.Proofs.Ytalhbhbkdfmhgaa
