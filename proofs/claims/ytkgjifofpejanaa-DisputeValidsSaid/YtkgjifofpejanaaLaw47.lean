/- The laws of disputes. -/
import Derived.Test.YtkgjifofpejanaaDispute
namespace Go.Proofs.Ytkgjifofpejanaa
open Go.Idl
set_option maxHeartbeats 4000000
set_option maxRecDepth 100000
attribute [local go_sem] Try.underlying3 Try.underlying5 Try.underlying9 Try.underlying21 ag23 eq23

theorem con7 {Φ : Specs} (hg : Idl.Good Try.prog Φ) : Contract Try.prog 7 (FT fun (t : Disp × Unit) => some (shortD t.1)) := by
  refine conT hg k7 ic7 (by decide) fun C t r h => ?_
  obtain ⟨d, u⟩ := t
  cases h
  simp +contextual only [go_sem, ↓reduceIte, Nat.reduceEqDiff, Nat.reduceAdd, Nat.reduceLeDiff, Nat.reduceLT, reduceCtorEq, c7, k7]
  rfl

theorem con3 {Φ : Specs} (hg : Idl.Good Try.prog Φ) (h7 : Φ 7 = some (FT fun (t : Disp × Unit) => some (shortD t.1))) (h8 : Φ 8 = some Aw) (h9 : Φ 9 = some (FT fun (t : Disp × Unit) => some (validD t.1)))
    (h10 : Φ 10 = some (FT fun (t : Disp × Unit) => some (validD t.1))) : Contract Try.prog 3 (FT fun (_ : Disp × Unit) => some true) := by
  refine conT hg k3 ic3 (by decide) fun C t r h => ?_
  obtain ⟨d, u⟩ := t
  cases h
  simp +contextual only [go_sem, ↓reduceIte, Nat.reduceEqDiff, Nat.reduceAdd, Nat.reduceLeDiff, Nat.reduceLT, reduceCtorEq, c3, k3, h7, h8, h9, h10]
  intro _
  exact rfl

theorem con5 {Φ : Specs} (hg : Idl.Good Try.prog Φ) (h7 : Φ 7 = some (FT fun (t : Disp × Unit) => some (shortD t.1))) (h8 : Φ 8 = some Aw) (h9 : Φ 9 = some S9) (h14 : Φ 14 = some S14) (h15 : Φ 15 = some S14) :
    Contract Try.prog 5 (FT fun (_ : Disp × MoveD × Unit) => some true) := by
  refine conT hg k5 ic5 (by decide) fun C t r h => ?_
  obtain ⟨d, m, u⟩ := t
  cases h
  simp +contextual only [go_sem, ↓reduceIte, Nat.reduceEqDiff, Nat.reduceAdd, Nat.reduceLeDiff, Nat.reduceLT, reduceCtorEq, c5, k5, h7, h8, h9, h14, h15]
  intro _
  refine ⟨by simp, fun _ => ?_⟩
  by_cases h0 : (stepS d m.who m.action m.amount m.now).2 = 0
  · rw [step_valid h0]; simp
  · simp [h0]
end Go.Proofs.Ytkgjifofpejanaa
