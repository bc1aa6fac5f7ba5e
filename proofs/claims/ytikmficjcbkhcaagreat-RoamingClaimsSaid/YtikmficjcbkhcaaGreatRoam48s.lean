/- The example of the chapter. -/
import Derived.Test.YtikmficjcbkhcaaGreatRoam48r
import Derived.Test.YtikmficjcbkhcaaGreatRoam48m
import Derived.Test.YtikmficjcbkhcaaGreatRoam48n
namespace Go.Proofs.YtikmficjcbkhcaaGreat
set_option linter.all false
open Go.Idl
set_option maxHeartbeats 8000000
set_option maxRecDepth 100000
attribute [local go_sem] agPty agCdr eqDis agDir agObj eqItm Tryz.underlying3 Tryz.underlying5 Tryz.underlying9 Tryz.underlying4
theorem xe0 : newP ⟨#[65]⟩ = (⟨⟨#[65]⟩, ⟨⟨#[65]⟩, [], [], 1⟩, [], []⟩, 0) := by kernel_rfl
theorem xe1 : newP ⟨#[66]⟩ = (⟨⟨#[66]⟩, ⟨⟨#[66]⟩, [], [], 1⟩, [], []⟩, 0) := by kernel_rfl
theorem xe2 : newP ⟨#[]⟩ = (⟨⟨#[]⟩, ⟨⟨#[]⟩, [], [], 0⟩, [], []⟩, 4) := by kernel_rfl
theorem xe3 : validP ⟨⟨#[65]⟩, ⟨⟨#[65]⟩, [], [], 1⟩, [], []⟩ = 0 := by kernel_rfl
theorem xe4 : validP ⟨⟨#[66]⟩, ⟨⟨#[66]⟩, [], [], 1⟩, [], []⟩ = 0 := by kernel_rfl
theorem xe5 : validP ⟨⟨#[65]⟩, ⟨⟨#[65]⟩, [], [], 1⟩, [⟨⟨#[99, 49]⟩, ⟨#[65]⟩, ⟨#[66]⟩, ⟨#[83, 45, 49]⟩, 1, 0, 0, 0, ⟨#[84]⟩, ⟨#[69, 85, 82]⟩, [], 0, false, ⟨#[]⟩⟩], []⟩ = 0 := by kernel_rfl
theorem xe6 : validP ⟨⟨#[66]⟩, ⟨⟨#[66]⟩, [], [], 1⟩, [⟨⟨#[99, 49]⟩, ⟨#[65]⟩, ⟨#[66]⟩, ⟨#[83, 45, 49]⟩, 1, 0, 0, 0, ⟨#[84]⟩, ⟨#[69, 85, 82]⟩, [], 0, false, ⟨#[]⟩⟩], []⟩ = 0 := by kernel_rfl
theorem xe7 : validP ⟨⟨#[65]⟩, ⟨⟨#[65]⟩, [], [], 1⟩, [⟨⟨#[99, 49]⟩, ⟨#[65]⟩, ⟨#[66]⟩, ⟨#[83, 45, 50]⟩, 1, 0, 0, 0, ⟨#[84]⟩, ⟨#[69, 85, 82]⟩, [], 0, false, ⟨#[]⟩⟩], []⟩ = 0 := by kernel_rfl
theorem xe8 : agrS ⟨⟨#[65]⟩, ⟨⟨#[65]⟩, [], [], 1⟩, [], []⟩ ⟨⟨#[66]⟩, ⟨⟨#[66]⟩, [], [], 1⟩, [], []⟩ = true := by kernel_rfl
theorem xe9 : agrS ⟨⟨#[65]⟩, ⟨⟨#[65]⟩, [], [], 1⟩, [⟨⟨#[99, 49]⟩, ⟨#[65]⟩, ⟨#[66]⟩, ⟨#[83, 45, 49]⟩, 1, 0, 0, 0, ⟨#[84]⟩, ⟨#[69, 85, 82]⟩, [], 0, false, ⟨#[]⟩⟩], []⟩ ⟨⟨#[66]⟩, ⟨⟨#[66]⟩, [], [], 1⟩, [], []⟩ = false := by kernel_rfl
theorem xe10 : agrS ⟨⟨#[65]⟩, ⟨⟨#[65]⟩, [], [], 1⟩, [⟨⟨#[99, 49]⟩, ⟨#[65]⟩, ⟨#[66]⟩, ⟨#[83, 45, 49]⟩, 1, 0, 0, 0, ⟨#[84]⟩, ⟨#[69, 85, 82]⟩, [], 0, false, ⟨#[]⟩⟩], []⟩ ⟨⟨#[66]⟩, ⟨⟨#[66]⟩, [], [], 1⟩, [⟨⟨#[99, 49]⟩, ⟨#[65]⟩, ⟨#[66]⟩, ⟨#[83, 45, 49]⟩, 1, 0, 0, 0, ⟨#[84]⟩, ⟨#[69, 85, 82]⟩, [], 0, false, ⟨#[]⟩⟩], []⟩ = true := by kernel_rfl
theorem xe11 : billS ⟨⟨#[65]⟩, ⟨⟨#[65]⟩, [], [], 1⟩, [], []⟩ ⟨⟨#[99, 49]⟩, ⟨#[65]⟩, ⟨#[66]⟩, ⟨#[83, 45, 49]⟩, 1, 0, 0, 0, ⟨#[84]⟩, ⟨#[69, 85, 82]⟩, [], 0, false, ⟨#[]⟩⟩ = (⟨⟨#[65]⟩, ⟨⟨#[65]⟩, [], [], 1⟩, [⟨⟨#[99, 49]⟩, ⟨#[65]⟩, ⟨#[66]⟩, ⟨#[83, 45, 49]⟩, 1, 0, 0, 0, ⟨#[84]⟩, ⟨#[69, 85, 82]⟩, [], 0, false, ⟨#[]⟩⟩], []⟩, 0) := by kernel_rfl
theorem xe12 : billS ⟨⟨#[65]⟩, ⟨⟨#[65]⟩, [], [], 1⟩, [], []⟩ ⟨⟨#[99, 49]⟩, ⟨#[66]⟩, ⟨#[65]⟩, ⟨#[83, 45, 49]⟩, 1, 0, 0, 0, ⟨#[84]⟩, ⟨#[69, 85, 82]⟩, [], 0, false, ⟨#[]⟩⟩ = (⟨⟨#[65]⟩, ⟨⟨#[65]⟩, [], [], 1⟩, [], []⟩, 15) := by kernel_rfl
theorem xe13 : billS ⟨⟨#[65]⟩, ⟨⟨#[65]⟩, [], [], 1⟩, [], []⟩ ⟨⟨#[99, 49]⟩, ⟨#[65]⟩, ⟨#[66]⟩, ⟨#[83, 45, 50]⟩, 1, 0, 0, 0, ⟨#[84]⟩, ⟨#[69, 85, 82]⟩, [], 0, false, ⟨#[]⟩⟩ = (⟨⟨#[65]⟩, ⟨⟨#[65]⟩, [], [], 1⟩, [⟨⟨#[99, 49]⟩, ⟨#[65]⟩, ⟨#[66]⟩, ⟨#[83, 45, 50]⟩, 1, 0, 0, 0, ⟨#[84]⟩, ⟨#[69, 85, 82]⟩, [], 0, false, ⟨#[]⟩⟩], []⟩, 0) := by kernel_rfl
theorem xe14 : syncS ⟨⟨#[65]⟩, ⟨⟨#[65]⟩, [], [], 1⟩, [⟨⟨#[99, 49]⟩, ⟨#[65]⟩, ⟨#[66]⟩, ⟨#[83, 45, 49]⟩, 1, 0, 0, 0, ⟨#[84]⟩, ⟨#[69, 85, 82]⟩, [], 0, false, ⟨#[]⟩⟩], []⟩ ⟨⟨#[66]⟩, ⟨⟨#[66]⟩, [], [], 1⟩, [], []⟩ = (⟨⟨#[65]⟩, ⟨⟨#[65]⟩, [], [], 1⟩, [⟨⟨#[99, 49]⟩, ⟨#[65]⟩, ⟨#[66]⟩, ⟨#[83, 45, 49]⟩, 1, 0, 0, 0, ⟨#[84]⟩, ⟨#[69, 85, 82]⟩, [], 0, false, ⟨#[]⟩⟩], []⟩, ⟨⟨#[66]⟩, ⟨⟨#[66]⟩, [], [], 1⟩, [⟨⟨#[99, 49]⟩, ⟨#[65]⟩, ⟨#[66]⟩, ⟨#[83, 45, 49]⟩, 1, 0, 0, 0, ⟨#[84]⟩, ⟨#[69, 85, 82]⟩, [], 0, false, ⟨#[]⟩⟩], []⟩, 0) := by kernel_rfl
theorem xe15 : syncS ⟨⟨#[65]⟩, ⟨⟨#[65]⟩, [], [], 1⟩, [⟨⟨#[99, 49]⟩, ⟨#[65]⟩, ⟨#[66]⟩, ⟨#[83, 45, 50]⟩, 1, 0, 0, 0, ⟨#[84]⟩, ⟨#[69, 85, 82]⟩, [], 0, false, ⟨#[]⟩⟩], []⟩ ⟨⟨#[66]⟩, ⟨⟨#[66]⟩, [], [], 1⟩, [⟨⟨#[99, 49]⟩, ⟨#[65]⟩, ⟨#[66]⟩, ⟨#[83, 45, 49]⟩, 1, 0, 0, 0, ⟨#[84]⟩, ⟨#[69, 85, 82]⟩, [], 0, false, ⟨#[]⟩⟩], []⟩ = (⟨⟨#[65]⟩, ⟨⟨#[65]⟩, [], [], 1⟩, [⟨⟨#[99, 49]⟩, ⟨#[65]⟩, ⟨#[66]⟩, ⟨#[83, 45, 50]⟩, 1, 0, 0, 0, ⟨#[84]⟩, ⟨#[69, 85, 82]⟩, [], 0, false, ⟨#[]⟩⟩], []⟩, ⟨⟨#[66]⟩, ⟨⟨#[66]⟩, [], [], 1⟩, [⟨⟨#[99, 49]⟩, ⟨#[65]⟩, ⟨#[66]⟩, ⟨#[83, 45, 49]⟩, 1, 0, 0, 0, ⟨#[84]⟩, ⟨#[69, 85, 82]⟩, [], 0, false, ⟨#[]⟩⟩], []⟩, 23) := by kernel_rfl
theorem xe16 : actS ⟨⟨#[66]⟩, ⟨⟨#[66]⟩, [], [], 1⟩, [⟨⟨#[99, 49]⟩, ⟨#[65]⟩, ⟨#[66]⟩, ⟨#[83, 45, 49]⟩, 1, 0, 0, 0, ⟨#[84]⟩, ⟨#[69, 85, 82]⟩, [], 0, false, ⟨#[]⟩⟩], []⟩ ⟨#[99, 49]⟩ 1 0 0 = (⟨⟨#[66]⟩, ⟨⟨#[66]⟩, [], [], 1⟩, [⟨⟨#[99, 49]⟩, ⟨#[65]⟩, ⟨#[66]⟩, ⟨#[83, 45, 49]⟩, 1, 0, 0, 0, ⟨#[84]⟩, ⟨#[69, 85, 82]⟩, [], 0, false, ⟨#[]⟩⟩], []⟩, 8) := by kernel_rfl
theorem xe17 : okS ⟨⟨#[65]⟩, ⟨⟨#[65]⟩, [], [], 1⟩, [], []⟩ = true := by kernel_rfl
theorem xe18 : okS ⟨⟨#[66]⟩, ⟨⟨#[66]⟩, [], [], 1⟩, [], []⟩ = true := by kernel_rfl
theorem xe19 : okS ⟨⟨#[65]⟩, ⟨⟨#[65]⟩, [], [], 1⟩, [⟨⟨#[99, 49]⟩, ⟨#[65]⟩, ⟨#[66]⟩, ⟨#[83, 45, 49]⟩, 1, 0, 0, 0, ⟨#[84]⟩, ⟨#[69, 85, 82]⟩, [], 0, false, ⟨#[]⟩⟩], []⟩ = true := by kernel_rfl
theorem xe20 : okS ⟨⟨#[66]⟩, ⟨⟨#[66]⟩, [], [], 1⟩, [⟨⟨#[99, 49]⟩, ⟨#[65]⟩, ⟨#[66]⟩, ⟨#[83, 45, 49]⟩, 1, 0, 0, 0, ⟨#[84]⟩, ⟨#[69, 85, 82]⟩, [], 0, false, ⟨#[]⟩⟩], []⟩ = true := by kernel_rfl
theorem xe21 : okS ⟨⟨#[65]⟩, ⟨⟨#[65]⟩, [], [], 1⟩, [⟨⟨#[99, 49]⟩, ⟨#[65]⟩, ⟨#[66]⟩, ⟨#[83, 45, 50]⟩, 1, 0, 0, 0, ⟨#[84]⟩, ⟨#[69, 85, 82]⟩, [], 0, false, ⟨#[]⟩⟩], []⟩ = true := by kernel_rfl
theorem xe22 : okDat [] = true := by kernel_rfl
theorem xe23 : okP ⟨⟨#[65]⟩, ⟨⟨#[65]⟩, [], [], 1⟩, [], []⟩ = true := by kernel_rfl
theorem xe24 : recS ⟨#[99, 49]⟩ ⟨#[65]⟩ ⟨#[66]⟩ = ⟨⟨#[99, 49]⟩, ⟨#[65]⟩, ⟨#[66]⟩, ⟨#[83, 45, 49]⟩, 1, 0, 0, 0, ⟨#[84]⟩, ⟨#[69, 85, 82]⟩, [], 0, false, ⟨#[]⟩⟩ := by kernel_rfl
theorem xe25 : recS ⟨#[99, 49]⟩ ⟨#[66]⟩ ⟨#[65]⟩ = ⟨⟨#[99, 49]⟩, ⟨#[66]⟩, ⟨#[65]⟩, ⟨#[83, 45, 49]⟩, 1, 0, 0, 0, ⟨#[84]⟩, ⟨#[69, 85, 82]⟩, [], 0, false, ⟨#[]⟩⟩ := by kernel_rfl
theorem xy0 : OkY ⟨⟨#[65]⟩, ⟨⟨#[65]⟩, [], [], 1⟩, [⟨⟨#[99, 49]⟩, ⟨#[65]⟩, ⟨#[66]⟩, ⟨#[83, 45, 49]⟩, 1, 0, 0, 0, ⟨#[84]⟩, ⟨#[69, 85, 82]⟩, [], 0, false, ⟨#[]⟩⟩], []⟩ := ⟨xe19, xe22, xe5, rfl, by decide⟩
theorem xy1 : OkY ⟨⟨#[66]⟩, ⟨⟨#[66]⟩, [], [], 1⟩, [], []⟩ := ⟨xe18, xe22, xe4, rfl, by decide⟩
theorem xy2 : OkY ⟨⟨#[65]⟩, ⟨⟨#[65]⟩, [], [], 1⟩, [⟨⟨#[99, 49]⟩, ⟨#[65]⟩, ⟨#[66]⟩, ⟨#[83, 45, 50]⟩, 1, 0, 0, 0, ⟨#[84]⟩, ⟨#[69, 85, 82]⟩, [], 0, false, ⟨#[]⟩⟩], []⟩ := ⟨xe21, xe22, xe7, rfl, by decide⟩
theorem xy3 : OkY ⟨⟨#[66]⟩, ⟨⟨#[66]⟩, [], [], 1⟩, [⟨⟨#[99, 49]⟩, ⟨#[65]⟩, ⟨#[66]⟩, ⟨#[83, 45, 49]⟩, 1, 0, 0, 0, ⟨#[84]⟩, ⟨#[69, 85, 82]⟩, [], 0, false, ⟨#[]⟩⟩], []⟩ := ⟨xe20, xe22, xe6, rfl, by decide⟩
abbrev SEx : List V → Option V := FT fun (_ : Unit) => some true
theorem con6 {Φ : Specs} (hg : Idl.Good Tryz.prog Φ) (h12 : Φ 12 = some SNewP) (h13 : Φ 13 = some SAgA) (h14 : Φ 14 = some SVlP) (h16 : Φ 16 = some SRec)
    (h15 : Φ 15 = some SBil) (h17 : Φ 17 = some SSyn) (h7 : Φ 7 = some SAct) : Contract Tryz.prog 6 SEx := by
  refine conT hg k6 ic6 (by decide) fun C t r h => ?_
  cases h
  have y0 : ((⟨#[65]⟩ : ByteArray) = ⟨#[66]⟩) = False := by simp only [eq_iff_iff, iff_false]; decide
  have b1 : (((1 : Nat) : Int) != 1) = false := rfl
  simp +contextual only [go_sem, ↓reduceIte, Nat.reduceEqDiff, Nat.reduceAdd, Nat.reduceLeDiff, Nat.reduceLT, reduceCtorEq, b1, Int.le_refl, Int.toNat_zero, List.getElem?_cons_zero, Option.map_some, c6, k6, h12, h13, h14, h16, h15, h17, h7, y0, not_false_eq_true, Nat.zero_le, List.map_nil, List.map_cons, List.length_nil, List.length_cons, decL, cond_true, cond_false, and_self, xe0, xe1, xe2, xe3, xe4, xe5, xe6, xe7, xe8, xe9, xe10, xe11, xe12, xe13, xe14, xe15, xe16, xe17, xe18, xe19, xe20, xe21, xe22, xe23, xe24, xe25, xy0, xy1, xy2, xy3]
  exact ⟨rfl, rfl⟩
end Go.Proofs.YtikmficjcbkhcaaGreat
