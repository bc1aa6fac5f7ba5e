/- The laws of directories, as contracts. -/
import Derived.Test.YtaagkdmmdgajjaaDir45o
import Derived.Test.YtaagkdmmdgajjaaDir45l
namespace Go.Proofs.Ytaagkdmmdgajjaa
set_option linter.all false
open Go.Idl
set_option maxHeartbeats 4000000
set_option maxRecDepth 100000
attribute [local go_sem] eqOK agObj agDir agOK agSh agMk agOp Try.underlying3 Try.underlying5 Try.underlying9 Try.underlying4
abbrev SEx : List V → Option V := FT fun (_ : Unit) => some true
theorem con3 {Φ : Specs} (hg : Idl.Good Try.prog Φ) (h9 : Φ 9 = some SEx) (h8 : Φ 8 = some SLng) (h10 : Φ 10 = some SVal) (h11 : Φ 11 = some SVal) :
    Contract Try.prog 3 (FT fun (t : DirD × Unit) => if t.1.objects.length ≤ 9223372036854775807 then some true else none) := by
  refine conT hg k3 ic3 (by decide) fun C t r h => ?_
  obtain ⟨d, u⟩ := t
  dsimp only at h
  split at h
  · rename_i hl
    cases h
    cases h1 : lngO d.objects 0 0 with
    | true =>
      simp +contextual only [go_sem, ↓reduceIte, Nat.reduceEqDiff, Nat.reduceAdd, Nat.reduceLeDiff, Nat.reduceLT, reduceCtorEq, c3, k3, h9, h8, hl, h1]
    | false =>
      have hlen := lngO_len h1 (by omega)
      cases h2 : decide ((d.marks.length : Int) > 300) with
      | true =>
        simp +contextual only [go_sem, ↓reduceIte, Nat.reduceEqDiff, Nat.reduceAdd, Nat.reduceLeDiff, Nat.reduceLT, reduceCtorEq, c3, k3, h9, h8, hl, h1, h2, List.length_map]
      | false =>
        have a1 : d.objects.length ≤ 1000000 := by omega
        have a2 : d.marks.length ≤ 1000000 := by simp at h2; omega
        simp +contextual only [go_sem, ↓reduceIte, Nat.reduceEqDiff, Nat.reduceAdd, Nat.reduceLeDiff, Nat.reduceLT, reduceCtorEq, c3, k3, h9, h8, h10, h11, hl, h1, h2, a1, a2, and_self, List.length_map, beq_self_eq_true]
        exact fun _ => rfl
  · cases h
end Go.Proofs.Ytaagkdmmdgajjaa
