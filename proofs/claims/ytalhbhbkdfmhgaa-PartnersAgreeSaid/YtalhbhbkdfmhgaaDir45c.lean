/- The order of the objects of a directory. -/
import Derived.Test.YtalhbhbkdfmhgaaDir45b
import Derived.Test.YtalhbhbkdfmhgaaCmp
namespace Go.Proofs.Ytalhbhbkdfmhgaa
set_option linter.all false
open Go.Idl
set_option maxHeartbeats 4000000
set_option maxRecDepth 100000
attribute [local go_sem] agObj agDir agOK Try.underlying3 Try.underlying5 Try.underlying9
def cmpM (a b : MarkD) : Int := firstNZ [cmpI a.mark b.mark, cmpI a.object.kind b.object.kind, cmpT a.object.owner b.object.owner, cmpT a.object.id b.object.id]
abbrev SCmpM : List V → Option V := FT fun (t : MarkD × MarkD × Unit) => some (cmpM t.1 t.2.1)
theorem con68 {Φ : Specs} (hg : Idl.Good Try.prog Φ) (h51 : Φ 70 = some (FT fun (t : Int × Int × Unit) => some (cmpI t.1 t.2.1))) (h52 : Φ 71 = some (FT fun (t : ByteArray × ByteArray × Unit) => some (cmpT t.1 t.2.1)))
    (h50 : Φ 69 = some (FT fun (t : List Int × Unit) => if t.1.length ≤ 1000000 then some (firstNZ t.1) else none)) : Contract Try.prog 68 SCmpM := by
  refine conT hg k68 ic68 (by decide) fun C t r h => ?_
  obtain ⟨a, b, u⟩ := t
  cases h
  simp +contextual only [go_sem, ↓reduceIte, Nat.reduceEqDiff, Nat.reduceAdd, Nat.reduceLeDiff, Nat.reduceLT, reduceCtorEq, c68, k68, h50, h51, h52]
  trivial
end Go.Proofs.Ytalhbhbkdfmhgaa
