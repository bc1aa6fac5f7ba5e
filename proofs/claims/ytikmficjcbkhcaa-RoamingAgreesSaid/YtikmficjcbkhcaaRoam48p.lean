/- An exchange between parties without disputes. -/
import Derived.Test.YtikmficjcbkhcaaRoam48o
namespace Go.Proofs.Ytikmficjcbkhcaa
set_option linter.all false
open Go.Idl
set_option maxHeartbeats 16000000
set_option maxRecDepth 100000
attribute [local go_sem] agPty agCdr eqDis agDir agObj eqItm Try.underlying3 Try.underlying5 Try.underlying9 Try.underlying4
abbrev SMgd : List V → Option V := FT fun (t : List Disp × List Disp × Unit) => if t.1 = [] ∧ t.2.1 = [] then some ([] : List Disp) else none
theorem con69 {Φ : Specs} (hg : Idl.Good Try.prog Φ) : Contract Try.prog 69 SMgd := by
  refine conT hg k69 ic69 (by decide) fun C t r h => ?_
  obtain ⟨a, b, u⟩ := t
  dsimp only at h
  split at h
  · rename_i hl
    obtain ⟨rfl, rfl⟩ := hl
    cases h
    simp +contextual only [go_sem, ↓reduceIte, Nat.reduceEqDiff, Nat.reduceAdd, Nat.reduceLeDiff, Nat.reduceLT, reduceCtorEq, c69, k69, List.map_nil, List.length_nil]
    refine TriI.loopL hg k69 ([] : List Disp) (fun i (_ : Unit) => ⟨slotsL [(0, Cod.enc ([] : List Disp)), (1, Cod.enc ([] : List Disp)), (5, .mapr 0), (16, Cod.enc ([] : List Disp)), (17, .sc (.int .i64 0)), (18, .sc (.int .i64 i))], objsL [.ext (.map [] [])], 1⟩)
      (fun _ _ => True) () (.back rfl ?_) trivial ?_ ?_
    · simp +contextual only [go_sem, ↓reduceIte, Nat.reduceEqDiff, Nat.reduceAdd, Nat.reduceLeDiff, Nat.reduceLT, reduceCtorEq, List.map_nil, List.length_nil]
      exact ⟨rfl, rfl⟩
    · intro _ _
      simp +contextual only [go_sem, ↓reduceIte, Nat.reduceEqDiff, Nat.reduceAdd, Nat.reduceLeDiff, Nat.reduceLT, reduceCtorEq, k69, Int.lt_irrefl, decide_false, List.map_nil, List.length_nil, Int.natCast_zero, Nat.zero_mul, Nat.zero_le]
      refine TriI.loopL hg k69 ([] : List Disp) (fun i (_ : Unit) => ⟨slotsL [(5, .mapr 0), (8, .own 1 0 0), (30, Cod.enc ([] : List Disp)), (31, .sc (.int .i64 0)), (32, .sc (.int .i64 i))], objsL [.ext (.map [] []), .live 6 [] true], 2⟩)
        (fun _ _ => True) () (.back rfl ?_) trivial ?_ ?_
      · simp +contextual only [go_sem, ↓reduceIte, Nat.reduceEqDiff, Nat.reduceAdd, Nat.reduceLeDiff, Nat.reduceLT, reduceCtorEq, List.map_nil, List.length_nil]
        rfl
      · intro _ _
        simp +contextual only [go_sem, ↓reduceIte, Nat.reduceEqDiff, Nat.reduceAdd, Nat.reduceLeDiff, Nat.reduceLT, reduceCtorEq, k69, Int.lt_irrefl, decide_false, List.map_nil, List.length_nil, List.take_nil, Nat.le_refl, Nat.zero_le, Int.natCast_zero, decL]
      · intro i _ x xs _ hlt
        exact absurd hlt (by simp)
    · intro i _ x xs _ hlt
      exact absurd hlt (by simp)
  · cases h
end Go.Proofs.Ytikmficjcbkhcaa
