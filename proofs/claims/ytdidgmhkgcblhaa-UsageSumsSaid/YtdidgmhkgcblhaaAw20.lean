/- The chapter's examples, walked. -/
import Derived.Test.YtdidgmhkgcblhaaRMin20
namespace Go.Proofs.Ytdidgmhkgcblhaa
set_option linter.all false
open Go.Idl
set_option maxHeartbeats 4000000
set_option maxRecDepth 100000
attribute [local go_sem] Try.underlying3 Try.underlying5 Try.underlying9 Try.underlying4
theorem tot_ex : totS [⟨10, 99990⟩, ⟨14, 15⟩] 100000 = (25, 0) := by decide
theorem min_ex : minS [⟨10, 99990⟩, ⟨14, 15⟩] 100000 = ([6, 6, 6, 7], 0) := by decide
theorem use_ex : useS [⟨10, 99990⟩, ⟨14, 15⟩, ⟨15, 15⟩] 100000 = ([⟨6, false⟩, ⟨6, false⟩, ⟨6, false⟩, ⟨7, false⟩, ⟨0, true⟩], 0) := by rfl
theorem val_ex : valS [] 1000 = 1 := by decide
theorem mrg_ex : mrgS [⟨1, 5⟩, ⟨3, 7⟩] [⟨2, 6⟩] = ([⟨1, 5⟩, ⟨2, 6⟩, ⟨3, 7⟩], 0) := by simp [mrgS, mrgL, asc, consM]
theorem same_ex : eqBy fI [6, 6, 6, 7] [6, 6, 6, 7] = true := by decide
abbrev Aw : List V → Option V := FT fun (_ : Unit) => some true
theorem con9 {Φ : Specs} (hg : Idl.Good Try.prog Φ) (h25 : Φ 25 = none) (h12 : Φ 12 = some STot) (h15 : Φ 15 = some SMin) (h17 : Φ 17 = some SUse) (h23 : Φ 23 = some SMrg) (h10 : Φ 10 = some SVal) (h19 : Φ 19 = some SEqfI) : Contract Try.prog 9 Aw := by
  refine conT hg k9 ic9 (by decide) fun C t r h => ?_
  cases h
  simp +contextual only [go_sem, ↓reduceIte, Nat.reduceEqDiff, Nat.reduceAdd, Nat.reduceLeDiff, Nat.reduceLT, reduceCtorEq, c9, k9, h25]
  refine CallT.of_walk hg k25 ic25 (by simp) fun C' hlow => ?_
  simp +contextual only [go_sem, ↓reduceIte, Nat.reduceEqDiff, Nat.reduceAdd, Nat.reduceLeDiff, Nat.reduceLT, reduceCtorEq, c25, k25, k9, h25, h12, tot_ex]
  refine CallT.of_walk hg k25 ic25 (by simp) fun C' hlow => ?_
  simp +contextual only [go_sem, ↓reduceIte, Nat.reduceEqDiff, Nat.reduceAdd, Nat.reduceLeDiff, Nat.reduceLT, reduceCtorEq, c25, k25, k9, h25, h15, min_ex]
  refine CallT.of_walk hg k25 ic25 (by simp) fun C' hlow => ?_
  simp +contextual only [go_sem, ↓reduceIte, Nat.reduceEqDiff, Nat.reduceAdd, Nat.reduceLeDiff, Nat.reduceLT, reduceCtorEq, c25, k25, k9, h25, h17, use_ex, List.take, List.drop, List.length_cons, List.length_nil, okE, List.all_cons, List.all_nil, Nat.reduceMul, h23, mrg_ex, h19, same_ex, h10, val_ex, Int.reduceToNat, Int.reduceLE, Int.reduceBNe, Int.reduceBEq, Int.cast_ofNat_Int, bne_self_eq_false, beq_self_eq_true, List.getElem?_cons_zero, List.getElem?_cons_succ]
end Go.Proofs.Ytdidgmhkgcblhaa
