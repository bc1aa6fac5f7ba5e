/- Comparing numbers and strings; the first of some that is not zero (for seats without strings.Compare). -/
import Derived.Test.YtlkejejgaenjcaaCodes
namespace Go.Proofs.Ytlkejejgaenjcaa
set_option linter.all false
open Go.Idl
set_option maxHeartbeats 4000000
set_option maxRecDepth 100000
attribute [local go_sem] Try.underlying3 Try.underlying5 Try.underlying9

def cmpI (a b : Int) : Int := if a < b then -1 else if b < a then 1 else 0
def firstNZ : List Int → Int
  | [] => 0
  | a :: l => if a ≠ 0 then a else firstNZ l
def cmpT (a b : ByteArray) : Int := bif ltS a b then -1 else bif !(ltS a b || decide (a = b)) then 1 else 0
theorem con45 {Φ : Specs} (hg : Idl.Good Try.prog Φ) : Contract Try.prog 45 (FT fun (t : ByteArray × Unit) => some false) := by
  refine conT hg k45 ic45 (by decide) fun C t r h => ?_
  obtain ⟨a, u⟩ := t
  cases h
  simp +contextual only [go_sem, ↓reduceIte, Nat.reduceEqDiff, Nat.reduceAdd, Nat.reduceLeDiff, Nat.reduceLT, reduceCtorEq, c45, k45]
theorem con38 {Φ : Specs} (hg : Idl.Good Try.prog Φ) (h58 : Φ 45 = some (FT fun (t : ByteArray × Unit) => some false)) : Contract Try.prog 38 (FT fun (t : ByteArray × ByteArray × Unit) => some (cmpT t.1 t.2.1)) := by
  refine conT hg k38 ic38 (by decide) fun C t r h => ?_
  obtain ⟨a, b, u⟩ := t
  cases h
  simp +contextual only [go_sem, ↓reduceIte, Nat.reduceEqDiff, Nat.reduceAdd, Nat.reduceLeDiff, Nat.reduceLT, reduceCtorEq, c38, k38, h58]
  (repeat' (first | apply And.intro | intro _)) <;> simp only [cmpT, *, cond_true, cond_false]
end Go.Proofs.Ytlkejejgaenjcaa
