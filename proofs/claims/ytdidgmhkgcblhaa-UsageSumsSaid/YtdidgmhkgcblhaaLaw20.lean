/- The laws of readings. -/
import Derived.Test.YtdidgmhkgcblhaaAw20
namespace Go.Proofs.Ytdidgmhkgcblhaa
set_option linter.all false
open Go.Idl
set_option maxHeartbeats 4000000
set_option maxRecDepth 100000
attribute [local go_sem] Try.underlying3 Try.underlying5 Try.underlying9 Try.underlying4
theorem eqBy_same {α : Type} {f : α → α → Bool} (hf : ∀ x y, f x y = true ↔ x = y) (a : List α) : eqBy f a a = true := (eqBy_iff hf).2 rfl
theorem con3 {Φ : Specs} (hg : Idl.Good Try.prog Φ) (h9 : Φ 9 = some Aw) (h10 : Φ 10 = some SVal) (h11 : Φ 11 = some SVal) : Contract Try.prog 3 (FT fun (_ : List Rdg × Int × Unit) => some true) := by
  refine conT hg k3 ic3 (by decide) fun C t r h => ?_
  obtain ⟨l, m, u⟩ := t
  cases h
  simp +contextual only [go_sem, ↓reduceIte, Nat.reduceEqDiff, Nat.reduceAdd, Nat.reduceLeDiff, Nat.reduceLT, reduceCtorEq, c3, k3, h9, h10, h11, beq_self_eq_true]
theorem con4 {Φ : Specs} (hg : Idl.Good Try.prog Φ) (h9 : Φ 9 = some Aw) (h12 : Φ 12 = some STot) (h13 : Φ 13 = some STot) : Contract Try.prog 4 (FT fun (_ : List Rdg × Int × Unit) => some true) := by
  refine conT hg k4 ic4 (by decide) fun C t r h => ?_
  obtain ⟨l, m, u⟩ := t
  cases h
  generalize hT : totS l m = T
  obtain ⟨T1, T2⟩ := T
  simp +contextual only [go_sem, ↓reduceIte, Nat.reduceEqDiff, Nat.reduceAdd, Nat.reduceLeDiff, Nat.reduceLT, reduceCtorEq, c4, k4, h9, h12, h13, hT, beq_self_eq_true]
theorem useS_len (l : List Rdg) (m : Int) : (useS l m).1.length ≤ 20160 := by
  have := minS_len l m
  unfold useS
  cases (minS l m).2 != 0 <;> simp [usesOf]; omega
theorem con5 {Φ : Specs} (hg : Idl.Good Try.prog Φ) (h9 : Φ 9 = some Aw) (h15 : Φ 15 = some SMin) (h16 : Φ 16 = some SMin) (h17 : Φ 17 = some SUse) (h18 : Φ 18 = some SUse)
    (h19 : Φ 19 = some SEqfI) (h20 : Φ 20 = some SEqfU) (hsh : Φ 14 = some (FT fun (t : List Rdg × Unit) => if t.1.length ≤ 1000000000 then some (shortS t.1) else none)) : Contract Try.prog 5 (FT fun (_ : List Rdg × Int × Unit) => some true) := by
  refine conT hg k5 ic5 (by decide) fun C t r h => ?_
  obtain ⟨l, m, u⟩ := t
  cases h
  have hl1 := minS_len l m
  have hl2 := useS_len l m
  generalize hM : minS l m = M at hl1
  generalize hU : useS l m = U at hl2
  obtain ⟨M1, M2⟩ := M
  obtain ⟨U1, U2⟩ := U
  dsimp only at hl1 hl2
  have q1 : M1.length ≤ 1000000 := by omega
  have q2 : U1.length ≤ 1000000 := by omega
  by_cases h4 : l.length > 40
  · have hd : decide ((l.length : Int) > 40) = true := by simp; omega
    simp +contextual only [go_sem, ↓reduceIte, Nat.reduceEqDiff, Nat.reduceAdd, Nat.reduceLeDiff, Nat.reduceLT, reduceCtorEq, c5, k5, h9, hd, List.length_map]
  · have hd : decide ((l.length : Int) > 40) = false := by simp; omega
    have hle : l.length ≤ 1000000000 := by omega
    simp +contextual only [go_sem, ↓reduceIte, Nat.reduceEqDiff, Nat.reduceAdd, Nat.reduceLeDiff, Nat.reduceLT, reduceCtorEq, c5, k5, h9, hd, hsh, hle, h15, h16, h17, h18, hM, hU, q1, q2, h19, h20, eqBy_same fI_iff, eqBy_same fU_iff, List.length_map, beq_self_eq_true]
end Go.Proofs.Ytdidgmhkgcblhaa
