/- The examples of the chapter. -/
import Derived.Test.YtaagkdmmdgajjaaDir45n
namespace Go.Proofs.Ytaagkdmmdgajjaa
set_option linter.all false
open Go.Idl
set_option maxHeartbeats 4000000
set_option maxRecDepth 100000
attribute [local go_sem] eqOK agObj agDir agOK agSh agMk agOp Try.underlying3 Try.underlying5 Try.underlying9 Try.underlying4
theorem bA : okName ⟨#[65]⟩ = true := by kernel_rfl
theorem bB : okName ⟨#[66]⟩ = true := by kernel_rfl
theorem b0 : okName ⟨#[]⟩ = false := by kernel_rfl
theorem xf0 : validDir ⟨⟨#[65]⟩, [], [], 1⟩ = 0 := by kernel_rfl
theorem xf1 : validDir ⟨⟨#[65]⟩, [⟨1, ⟨#[120]⟩, ⟨#[65]⟩, 1, false, []⟩], [1], 2⟩ = 0 := by kernel_rfl
theorem xf2 : validDir ⟨⟨#[65]⟩, [⟨1, ⟨#[120]⟩, ⟨#[65]⟩, 1, false, []⟩, ⟨1, ⟨#[121]⟩, ⟨#[65]⟩, 1, false, []⟩], [1, 2], 3⟩ = 0 := by kernel_rfl
theorem xf3 : validDir ⟨⟨#[65]⟩, [⟨1, ⟨#[121]⟩, ⟨#[65]⟩, 1, false, []⟩, ⟨1, ⟨#[120]⟩, ⟨#[65]⟩, 2, false, []⟩], [2, 3], 4⟩ = 0 := by kernel_rfl
theorem xf4 : validDir ⟨⟨#[66]⟩, [], [], 1⟩ = 0 := by kernel_rfl
theorem xf5 : validDir ⟨⟨#[66]⟩, [⟨1, ⟨#[121]⟩, ⟨#[65]⟩, 1, false, []⟩, ⟨1, ⟨#[120]⟩, ⟨#[65]⟩, 2, false, []⟩], [1, 2], 3⟩ = 0 := by kernel_rfl
theorem xf6 : validDir ⟨⟨#[65]⟩, [], [], 0⟩ = 2 := by kernel_rfl
theorem xf7 : putS ⟨⟨#[65]⟩, [], [], 1⟩ ⟨1, ⟨#[120]⟩, ⟨#[65]⟩, 1, false, []⟩ = (⟨⟨#[65]⟩, [⟨1, ⟨#[120]⟩, ⟨#[65]⟩, 1, false, []⟩], [1], 2⟩, 0) := by kernel_rfl
theorem xf8 : putS ⟨⟨#[65]⟩, [⟨1, ⟨#[120]⟩, ⟨#[65]⟩, 1, false, []⟩], [1], 2⟩ ⟨1, ⟨#[121]⟩, ⟨#[65]⟩, 1, false, []⟩ = (⟨⟨#[65]⟩, [⟨1, ⟨#[120]⟩, ⟨#[65]⟩, 1, false, []⟩, ⟨1, ⟨#[121]⟩, ⟨#[65]⟩, 1, false, []⟩], [1, 2], 3⟩, 0) := by kernel_rfl
theorem xf9 : putS ⟨⟨#[65]⟩, [⟨1, ⟨#[120]⟩, ⟨#[65]⟩, 1, false, []⟩, ⟨1, ⟨#[121]⟩, ⟨#[65]⟩, 1, false, []⟩], [1, 2], 3⟩ ⟨1, ⟨#[120]⟩, ⟨#[65]⟩, 2, false, []⟩ = (⟨⟨#[65]⟩, [⟨1, ⟨#[121]⟩, ⟨#[65]⟩, 1, false, []⟩, ⟨1, ⟨#[120]⟩, ⟨#[65]⟩, 2, false, []⟩], [2, 3], 4⟩, 0) := by kernel_rfl
theorem xf10 : putS ⟨⟨#[65]⟩, [⟨1, ⟨#[121]⟩, ⟨#[65]⟩, 1, false, []⟩, ⟨1, ⟨#[120]⟩, ⟨#[65]⟩, 2, false, []⟩], [2, 3], 4⟩ ⟨1, ⟨#[120]⟩, ⟨#[65]⟩, 2, false, []⟩ = (⟨⟨#[65]⟩, [⟨1, ⟨#[121]⟩, ⟨#[65]⟩, 1, false, []⟩, ⟨1, ⟨#[120]⟩, ⟨#[65]⟩, 2, false, []⟩], [2, 3], 4⟩, 11) := by kernel_rfl
theorem xf11 : putS ⟨⟨#[65]⟩, [⟨1, ⟨#[121]⟩, ⟨#[65]⟩, 1, false, []⟩, ⟨1, ⟨#[120]⟩, ⟨#[65]⟩, 2, false, []⟩], [2, 3], 4⟩ ⟨1, ⟨#[120]⟩, ⟨#[66]⟩, 1, false, []⟩ = (⟨⟨#[65]⟩, [⟨1, ⟨#[121]⟩, ⟨#[65]⟩, 1, false, []⟩, ⟨1, ⟨#[120]⟩, ⟨#[65]⟩, 2, false, []⟩], [2, 3], 4⟩, 15) := by kernel_rfl
theorem xf12 : findD [⟨1, ⟨#[121]⟩, ⟨#[65]⟩, 1, false, []⟩, ⟨1, ⟨#[120]⟩, ⟨#[65]⟩, 2, false, []⟩] ⟨1, ⟨#[65]⟩, ⟨#[120]⟩⟩ = (⟨1, ⟨#[120]⟩, ⟨#[65]⟩, 2, false, []⟩, true) := by kernel_rfl
theorem xf13 : findD [⟨1, ⟨#[121]⟩, ⟨#[65]⟩, 1, false, []⟩, ⟨1, ⟨#[120]⟩, ⟨#[65]⟩, 2, false, []⟩] ⟨2, ⟨#[65]⟩, ⟨#[120]⟩⟩ = (zeroO, false) := by kernel_rfl
theorem xf14 : newsD [⟨1, ⟨#[121]⟩, ⟨#[65]⟩, 1, false, []⟩, ⟨1, ⟨#[120]⟩, ⟨#[65]⟩, 2, false, []⟩] [2, 3] 2 = [⟨1, ⟨#[120]⟩, ⟨#[65]⟩, 2, false, []⟩] := by kernel_rfl
theorem xf15 : newsD [⟨1, ⟨#[121]⟩, ⟨#[65]⟩, 1, false, []⟩, ⟨1, ⟨#[120]⟩, ⟨#[65]⟩, 2, false, []⟩] [2, 3] 0 = [⟨1, ⟨#[121]⟩, ⟨#[65]⟩, 1, false, []⟩, ⟨1, ⟨#[120]⟩, ⟨#[65]⟩, 2, false, []⟩] := by kernel_rfl
theorem xf16 : mergeS ⟨⟨#[66]⟩, [], [], 1⟩ [⟨1, ⟨#[121]⟩, ⟨#[65]⟩, 1, false, []⟩, ⟨1, ⟨#[120]⟩, ⟨#[65]⟩, 2, false, []⟩] = (⟨⟨#[66]⟩, [⟨1, ⟨#[121]⟩, ⟨#[65]⟩, 1, false, []⟩, ⟨1, ⟨#[120]⟩, ⟨#[65]⟩, 2, false, []⟩], [1, 2], 3⟩, 2) := by kernel_rfl
theorem xf17 : mergeS ⟨⟨#[66]⟩, [⟨1, ⟨#[121]⟩, ⟨#[65]⟩, 1, false, []⟩, ⟨1, ⟨#[120]⟩, ⟨#[65]⟩, 2, false, []⟩], [1, 2], 3⟩ [⟨1, ⟨#[121]⟩, ⟨#[65]⟩, 1, false, []⟩, ⟨1, ⟨#[120]⟩, ⟨#[65]⟩, 2, false, []⟩] = (⟨⟨#[66]⟩, [⟨1, ⟨#[121]⟩, ⟨#[65]⟩, 1, false, []⟩, ⟨1, ⟨#[120]⟩, ⟨#[65]⟩, 2, false, []⟩], [1, 2], 3⟩, 0) := by kernel_rfl
theorem xf18 : okDat [⟨1, ⟨#[121]⟩, ⟨#[65]⟩, 1, false, []⟩, ⟨1, ⟨#[120]⟩, ⟨#[65]⟩, 2, false, []⟩] = true := by kernel_rfl
theorem xf19 : sameL [⟨1, ⟨#[121]⟩, ⟨#[65]⟩, 1, false, []⟩, ⟨1, ⟨#[120]⟩, ⟨#[65]⟩, 2, false, []⟩] [⟨1, ⟨#[121]⟩, ⟨#[65]⟩, 1, false, []⟩, ⟨1, ⟨#[120]⟩, ⟨#[65]⟩, 2, false, []⟩] = true := by kernel_rfl
theorem xf20 : sameL [⟨1, ⟨#[120]⟩, ⟨#[65]⟩, 2, false, []⟩] [⟨1, ⟨#[120]⟩, ⟨#[65]⟩, 2, false, []⟩] = true := by kernel_rfl
theorem xf21 : sameO ⟨1, ⟨#[120]⟩, ⟨#[65]⟩, 2, false, []⟩ ⟨1, ⟨#[120]⟩, ⟨#[65]⟩, 2, false, []⟩ = true := by kernel_rfl
theorem xf22 : eqI [2, 3] [2, 3] = true := by kernel_rfl
theorem con9 {Φ : Specs} (hg : Idl.Good Try.prog Φ) (h28 : Φ 28 = some SNewD) (h29 : Φ 29 = some SPut) (h14 : Φ 14 = some SFind) (h16 : Φ 16 = some SSin)
    (h20 : Φ 20 = some SMrg) (h10 : Φ 10 = some SVal) (h18 : Φ 18 = some SSam) (h19 : Φ 19 = some SSms) (h30 : Φ 30 = some SEqI) :
    Contract Try.prog 9 (FT fun (_ : Unit) => some true) := by
  refine conT hg k9 ic9 (by decide) fun C t r h => ?_
  cases h
  have n1 : (1 : Int) < 4611686018427387904 := by decide
  have n2 : (2 : Int) < 4611686018427387904 := by decide
  have n3 : (3 : Int) < 4611686018427387904 := by decide
  have n5 : (1 : Int) + ((2 : Nat) : Int) ≤ 4611686018427387904 := by decide
  have n6 : (3 : Int) + ((2 : Nat) : Int) ≤ 4611686018427387904 := by decide
  have n7 : IntKind.i64.wrap (4 - 1) = 3 := by decide
  have n4 : (4 : Int) < 4611686018427387904 := by decide
  simp +contextual only [go_sem, ↓reduceIte, Nat.reduceEqDiff, Nat.reduceAdd, Nat.reduceLeDiff, Nat.reduceLT, reduceCtorEq, c9, k9, h28, h29, h14, h16, h20, h10, h18, h19, h30, bA, bB, b0, cond_true, cond_false, List.map_nil, decL, n1, n2, n3, n4, n5, n6, n7, and_self, xf0, xf1, xf2, xf3, xf4, xf5, xf6, xf7, xf8, xf9, xf10, xf11, xf12, xf13, xf14, xf15, xf16, xf17, xf18, xf19, xf20, xf21, xf22]
  trivial
end Go.Proofs.Ytaagkdmmdgajjaa
