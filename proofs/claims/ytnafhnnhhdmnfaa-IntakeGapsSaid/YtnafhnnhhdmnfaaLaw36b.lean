/- The law of putting an event. -/
import Derived.Test.YtnafhnnhhdmnfaaLaw36
import Derived.Test.YtnafhnnhhdmnfaaPutLaw36
namespace Go.Proofs.Ytnafhnnhhdmnfaa
set_option linter.all false
open Go.Idl
set_option maxHeartbeats 4000000
set_option maxRecDepth 100000
attribute [local go_sem] Try.underlying3 Try.underlying5 Try.underlying9 Try.underlying4 agKey
theorem C15 : Contract Try.prog 15 SSameL := con15 (good0.add (facts_enters ic39) C39) rfl
theorem C14 : Contract Try.prog 14 SPutR :=
  con14 (((((good0.add (facts_enters ic31) C31).add (facts_enters ic38) C38).add (facts_enters ic39) C39).add (facts_enters ic32) C32).add (facts_enters ic33) C33) rfl rfl rfl rfl rfl
theorem C9 : Contract Try.prog 9 SShort := con9 good0
theorem Coll.rds {l : List EvD} (h : Coll l) : rdsOk l = true := by
  have hl := h.len
  simp only [rdsOk, Bool.and_eq_true, List.all_eq_true, decide_eq_true_eq]
  exact ⟨by omega, fun x hx => by have := ev_rds (h.ok x hx); omega⟩
theorem con4 {Φ : Specs} (hg : Idl.Good Try.prog Φ) (h9 : Φ 9 = some SShort) (h10 : Φ 10 = some Aw) (h11 : Φ 11 = some SCol)
    (h12 : Φ 12 = some SCol) (h13 : Φ 13 = some SPut) (h14 : Φ 14 = some SPutR) (h15 : Φ 15 = some SSameL) :
    Contract Try.prog 4 (FT fun (_ : List EvD × EvD × Unit) => some true) := by
  refine conT hg k4 ic4 (by decide) fun C t r h => ?_
  obtain ⟨l, e, u⟩ := t
  cases h
  by_cases hl : colS l = 0
  · have hC := colS_ok.1 hl
    have hm : Coll (putR l e).1 := putR_coll hC e
    have hm1 := colS_ok.2 hm
    have hm2 := hm.rds
    have hS : eqZ sameE (putR l e).1 (putR l e).1 = true := (eqZ_iff fun a b => sameE_iff).2 rfl
    have hne : (colS l != 0) = false := by simp [hl]
    simp +contextual only [go_sem, ↓reduceIte, Nat.reduceEqDiff, Nat.reduceAdd, Nat.reduceLeDiff, Nat.reduceLT, reduceCtorEq, c4, k4, h9, h10, h11, h12, h13, h14, h15, hl, hm1, hm2, hS, hne, putS_eq hC]
  · have hne : (colS l != 0) = true := by simp [hl]
    simp +contextual only [go_sem, ↓reduceIte, Nat.reduceEqDiff, Nat.reduceAdd, Nat.reduceLeDiff, Nat.reduceLT, reduceCtorEq, c4, k4, h9, h10, h11, h12, hne, Bool.or_true, Bool.true_eq_false, false_implies, implies_true]
theorem C4 : Contract Try.prog 4 (FT fun (_ : List EvD × EvD × Unit) => some true) := by
  have g := good0
  have g := g.add (facts_enters ic9) C9
  have g := g.add (facts_enters ic10) conAw
  have g := g.add (facts_enters ic11) C11
  have g := g.add (facts_enters ic12) C12
  have g := g.add (facts_enters ic13) C13
  have g := g.add (facts_enters ic14) C14
  have g := g.add (facts_enters ic15) C15
  exact con4 g rfl rfl rfl rfl rfl rfl rfl
end Go.Proofs.Ytnafhnnhhdmnfaa
