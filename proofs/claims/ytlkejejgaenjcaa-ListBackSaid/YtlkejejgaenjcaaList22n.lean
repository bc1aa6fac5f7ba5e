/- The examples of the chapter; the laws that compare. -/
import Derived.Test.YtlkejejgaenjcaaList22m
namespace Go.Proofs.Ytlkejejgaenjcaa
set_option linter.all false
open Go.Idl
set_option maxHeartbeats 4000000
set_option maxRecDepth 100000
attribute [local go_sem] eqTok agTok agLst Try.underlying3 Try.underlying5 Try.underlying9 Try.underlying4
theorem con10 {Φ : Specs} (hg : Idl.Good Try.prog Φ) : Contract Try.prog 10 (FT fun (t : List TokD × Unit) => some (decide ((t.1.length : Int) ≤ 140))) := by
  refine conT hg k10 ic10 (by decide) fun C t r h => ?_
  obtain ⟨l, u⟩ := t
  cases h
  simp +contextual only [go_sem, ↓reduceIte, Nat.reduceEqDiff, Nat.reduceAdd, Nat.reduceLeDiff, Nat.reduceLT, reduceCtorEq, c10, k10, List.length_map]
abbrev SSml : List V → Option V := FT fun (t : List TokD × Unit) => some (decide ((t.1.length : Int) ≤ 140))
abbrev STkn : List V → Option V := FT fun (t : ByteArray × Int × Unit) => some (⟨t.1, ⟨#[]⟩, ⟨#[]⟩, 1, t.2.1, -1⟩ : TokD)
theorem con24 {Φ : Specs} (hg : Idl.Good Try.prog Φ) : Contract Try.prog 24 STkn := by
  refine conT hg k24 ic24 (by decide) fun C t r h => ?_
  obtain ⟨s, n, u⟩ := t
  cases h
  simp +contextual only [go_sem, ↓reduceIte, Nat.reduceEqDiff, Nat.reduceAdd, Nat.reduceLeDiff, Nat.reduceLT, reduceCtorEq, c24, k24]
def tkn (c : UInt8) (st : Int) : TokD := ⟨⟨#[c]⟩, ⟨#[]⟩, ⟨#[]⟩, 1, st, -1⟩
def rmv (c : UInt8) : TokD := ⟨⟨#[c]⟩, ⟨#[]⟩, ⟨#[]⟩, 0, 0, 0⟩
theorem xf1 : fullS ⟨0, []⟩ 3 [⟨⟨#[98]⟩, ⟨#[]⟩, ⟨#[]⟩, 1, 1, -1⟩, ⟨⟨#[65]⟩, ⟨#[]⟩, ⟨#[]⟩, 1, 1, -1⟩] = (⟨3, [⟨⟨#[65]⟩, ⟨#[]⟩, ⟨#[]⟩, 1, 1, -1⟩, ⟨⟨#[98]⟩, ⟨#[]⟩, ⟨#[]⟩, 1, 1, -1⟩]⟩, 0) := by kernel_rfl
theorem xf2 : validL ⟨3, [⟨⟨#[65]⟩, ⟨#[]⟩, ⟨#[]⟩, 1, 1, -1⟩, ⟨⟨#[98]⟩, ⟨#[]⟩, ⟨#[]⟩, 1, 1, -1⟩]⟩ = 0 := by kernel_rfl
theorem xf3 : changeS ⟨3, [⟨⟨#[65]⟩, ⟨#[]⟩, ⟨#[]⟩, 1, 1, -1⟩, ⟨⟨#[98]⟩, ⟨#[]⟩, ⟨#[]⟩, 1, 1, -1⟩]⟩ 3 4 [⟨⟨#[97]⟩, ⟨#[]⟩, ⟨#[]⟩, 0, 0, 0⟩] = (⟨4, [⟨⟨#[98]⟩, ⟨#[]⟩, ⟨#[]⟩, 1, 1, -1⟩]⟩, 0) := by kernel_rfl
theorem xf4 : changeS ⟨3, [⟨⟨#[65]⟩, ⟨#[]⟩, ⟨#[]⟩, 1, 1, -1⟩, ⟨⟨#[98]⟩, ⟨#[]⟩, ⟨#[]⟩, 1, 1, -1⟩]⟩ 3 4 [⟨⟨#[67]⟩, ⟨#[]⟩, ⟨#[]⟩, 0, 0, 0⟩] = (⟨3, [⟨⟨#[65]⟩, ⟨#[]⟩, ⟨#[]⟩, 1, 1, -1⟩, ⟨⟨#[98]⟩, ⟨#[]⟩, ⟨#[]⟩, 1, 1, -1⟩]⟩, 8) := by kernel_rfl
theorem xf5 : changeS ⟨3, [⟨⟨#[65]⟩, ⟨#[]⟩, ⟨#[]⟩, 1, 1, -1⟩, ⟨⟨#[98]⟩, ⟨#[]⟩, ⟨#[]⟩, 1, 1, -1⟩]⟩ 2 4 [] = (⟨3, [⟨⟨#[65]⟩, ⟨#[]⟩, ⟨#[]⟩, 1, 1, -1⟩, ⟨⟨#[98]⟩, ⟨#[]⟩, ⟨#[]⟩, 1, 1, -1⟩]⟩, 11) := by kernel_rfl
theorem xf6 : diffS ⟨3, [⟨⟨#[65]⟩, ⟨#[]⟩, ⟨#[]⟩, 1, 1, -1⟩, ⟨⟨#[98]⟩, ⟨#[]⟩, ⟨#[]⟩, 1, 1, -1⟩]⟩ ⟨5, [⟨⟨#[66]⟩, ⟨#[]⟩, ⟨#[]⟩, 1, 2, -1⟩, ⟨⟨#[67]⟩, ⟨#[]⟩, ⟨#[]⟩, 1, 1, -1⟩]⟩ = ([⟨⟨#[65]⟩, ⟨#[]⟩, ⟨#[]⟩, 0, 0, 0⟩, ⟨⟨#[66]⟩, ⟨#[]⟩, ⟨#[]⟩, 1, 2, -1⟩, ⟨⟨#[67]⟩, ⟨#[]⟩, ⟨#[]⟩, 1, 1, -1⟩], 0) := by kernel_rfl
abbrev SEx : List V → Option V := FT fun (_ : Unit) => some true
theorem con11 {Φ : Specs} (hg : Idl.Good Try.prog Φ) (h24 : Φ 24 = some STkn) (h14 : Φ 14 = some SFul) (h12 : Φ 12 = some SVal) (h17 : Φ 17 = some SChg) (h19 : Φ 19 = some SDif) : Contract Try.prog 11 SEx := by
  refine conT hg k11 ic11 (by decide) fun C t r h => ?_
  cases h
  have n1 : (((1 : Nat) : Int) == 1) = true := by decide
  have n2 : (((2 : Nat) : Int) != 2) = false := by decide
  have n3 : (((3 : Nat) : Int) == 3) = true := by decide
  have m0 : (0 : Int) < ((1 : Nat) : Int) := by decide
  have t0 : Int.toNat 0 = 0 := rfl
  have t1 : Int.toNat 1 = 1 := rfl
  have t2 : Int.toNat 2 = 2 := rfl
  have u0 : (0 : Int) ≤ 0 := by decide
  have u1 : (0 : Int) ≤ 1 := by decide
  have u2 : (0 : Int) ≤ 2 := by decide
  have v0 : ((0 : Int) != 0) = false := by decide
  have g0 : ∀ (x : V) (l : List V), (x :: l)[0]? = some x := fun _ _ => rfl
  have g1 : ∀ (x y : V) (l : List V), (x :: y :: l)[1]? = some y := fun _ _ _ => rfl
  have g2 : ∀ (x y z : V) (l : List V), (x :: y :: z :: l)[2]? = some z := fun _ _ _ _ => rfl
  simp +contextual only [go_sem, ↓reduceIte, Nat.reduceEqDiff, Nat.reduceAdd, Nat.reduceLeDiff, Nat.reduceLT, reduceCtorEq, c11, n1, n2, n3, t0, t1, t2, u0, u1, u2, v0, g0, g1, g2, Option.map_some, k11, h24, h14, h12, h17, h19, List.map_nil, decL, xf1, xf2, xf3, xf4, xf5, xf6]
  exact rfl
end Go.Proofs.Ytlkejejgaenjcaa
