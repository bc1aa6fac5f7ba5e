/- The reference's total, and whether times ascend. -/
import Derived.Test.YtoccifhckpjfaaaTot20
namespace Go.Proofs.Ytoccifhckpjfaaa
set_option linter.all false
open Go.Idl
set_option maxHeartbeats 4000000
set_option maxRecDepth 100000
attribute [local go_sem] Try.underlying3 Try.underlying5 Try.underlying9 Try.underlying4
abbrev SBt : List V → Option V := FT fun (t : Rdg × Rdg × Int × Unit) => if (1000 ≤ t.2.2.1 ∧ t.2.2.1 ≤ 1099511627776) ∧ rOk t.2.2.1 t.1 = true ∧ rOk t.2.2.1 t.2.1 = true then some (bt t.2.2.1 t.1 t.2.1) else none
theorem con48 {Φ : Specs} (hg : Idl.Good Try.prog Φ) (h58 : Φ 58 = some SVal) (h59 : Φ 59 = some SBt) : Contract Try.prog 48 STot := by
  refine conT hg k48 ic48 (by decide) fun C t r h => ?_
  obtain ⟨l, m, u⟩ := t
  cases h
  simp +contextual only [go_sem, ↓reduceIte, Nat.reduceEqDiff, Nat.reduceAdd, Nat.reduceLeDiff, Nat.reduceLT, reduceCtorEq, c48, k48, h58]
  refine ⟨fun h => ?_, fun h => ?_⟩
  · simp only [totS, h, cond_true]
  have hz : valS l m = 0 := by simpa using h
  have hv := valS_ok hz
  have ht : totS l m = (totL m l, 0) := by simp only [totS, hz, bne_self_eq_false, cond_false]
  have hl := hv.len
  rw [ht]
  refine TriI.loopA hg k48 (fun p : Nat × Int => ⟨slotsL [(0, Cod.enc l), (1, .sc (.int .i64 m)), (7, .sc (.int .i64 p.2)), (8, .sc (.int .i64 (p.1 : Nat)))], objsL [], 0⟩)
    (fun p => (1 ≤ p.1 ∧ p.1 ≤ l.length + 1) ∧ p.2 + totL m (l.drop (p.1 - 1)) = totL m l ∧ 0 ≤ p.2 ∧ p.2 ≤ (p.1 : Int) * 1099511627776) (fun p => l.length + 1 - p.1) (1, 0) (.back rfl ?_) ⟨⟨Nat.le_refl _, by dsimp only; omega⟩, by simp, by dsimp only; omega, by dsimp only; omega⟩ ?_
  · simp +contextual only [go_sem, ↓reduceIte, Nat.reduceEqDiff, Nat.reduceAdd, Nat.reduceLeDiff, Nat.reduceLT, reduceCtorEq]
    rfl
  · rintro ⟨i, a⟩ ⟨⟨g1, g2⟩, h1, h2, h3⟩
    dsimp only at g1 g2 h1 h2 h3 ⊢
    by_cases hlt : i < l.length
    · have hw0 := wrap_nat hlt (by omega)
      obtain ⟨j, rfl⟩ : ∃ j, i = j + 1 := ⟨i - 1, by omega⟩
      have hw1 : IntKind.i64.wrap (((j + 1 : Nat) : Int) - 1) = (j : Int) := by rw [IntKind.wrap_i64]; omega
      have hx : l[j]? = some l[j] := by simp
      have hy : l[j + 1]? = some l[j + 1] := by simp
      have hd := totL_drop m hx hy
      have hb := bt_range l[j] l[j + 1] (m := m) (by have := hv.m1; omega)
      have hm1 := hv.m1
      have hm2 := hv.m2
      have o1 := hv.ok l[j] (by simp)
      have o2 := hv.ok l[j + 1] (by simp)
      have hw : IntKind.i64.wrap (a + bt m l[j] l[j + 1]) = a + bt m l[j] l[j + 1] := by rw [IntKind.wrap_i64]; omega
      simp +contextual only [go_sem, ↓reduceIte, Nat.reduceEqDiff, Nat.reduceAdd, Nat.reduceLeDiff, Nat.reduceLT, reduceCtorEq, k48, hlt, lt_dec hlt, hw0, hw1, hx, hy, h59, hm1, hm2, o1, o2, hw, and_self, List.length_map, List.getElem?_map, Option.map_some, Int.natCast_nonneg, Int.toNat_natCast]
      refine ⟨rfl, (j + 2, a + bt m l[j] l[j + 1]), by dsimp only; omega, ⟨⟨Nat.le_add_left 1 (j + 1), by first | omega | (dsimp only; omega)⟩, ?_, by dsimp only; omega, by dsimp only; push_cast at h3 ⊢; omega⟩, .back rfl ?_⟩
      · dsimp only
        rw [← h1, show j + 2 - 1 = j + 1 from rfl, show j + 1 - 1 = j from rfl, hd]
        omega
      · simp +contextual only [go_sem, ↓reduceIte, Nat.reduceEqDiff, Nat.reduceAdd, Nat.reduceLeDiff, Nat.reduceLT, reduceCtorEq]
        try rfl
    · have hd : decide ((i : Int) < (l.length : Int)) = false := by simp; omega
      rw [totL_end m (by omega), Int.add_zero] at h1
      simp +contextual only [go_sem, ↓reduceIte, Nat.reduceEqDiff, Nat.reduceAdd, Nat.reduceLeDiff, Nat.reduceLT, reduceCtorEq, k48, hd, h1, List.length_map]
theorem con57 {Φ : Specs} (hg : Idl.Good Try.prog Φ) : Contract Try.prog 57 SAsc := by
  refine conT hg k57 ic57 (by decide) fun C t r h => ?_
  obtain ⟨l, u⟩ := t
  dsimp only at h
  split at h
  · rename_i hl
    cases h
    simp +contextual only [go_sem, ↓reduceIte, Nat.reduceEqDiff, Nat.reduceAdd, Nat.reduceLeDiff, Nat.reduceLT, reduceCtorEq, c57, k57]
    refine TriI.loopA hg k57 (fun p : Nat => ⟨slotsL [(0, Cod.enc l), (3, .sc (.int .i64 (p : Nat)))], objsL [], 0⟩)
      (fun p => (1 ≤ p ∧ p ≤ l.length + 1) ∧ asc (l.drop (p - 1)) = asc l) (fun p => l.length + 1 - p) 1 (.back rfl ?_) ⟨⟨Nat.le_refl _, by omega⟩, rfl⟩ ?_
    · simp +contextual only [go_sem, ↓reduceIte, Nat.reduceEqDiff, Nat.reduceAdd, Nat.reduceLeDiff, Nat.reduceLT, reduceCtorEq]
      rfl
    · rintro i ⟨⟨g1, g2⟩, h1⟩
      by_cases hlt : i < l.length
      · have hw0 := wrap_nat hlt (by omega)
        obtain ⟨j, rfl⟩ : ∃ j, i = j + 1 := ⟨i - 1, by omega⟩
        have hw1 : IntKind.i64.wrap (((j + 1 : Nat) : Int) - 1) = (j : Int) := by rw [IntKind.wrap_i64]; omega
        have hx : l[j]? = some l[j] := by simp
        have hy : l[j + 1]? = some l[j + 1] := by simp
        have hd := asc_drop hx hy
        simp +contextual only [go_sem, ↓reduceIte, Nat.reduceEqDiff, Nat.reduceAdd, Nat.reduceLeDiff, Nat.reduceLT, reduceCtorEq, k57, hlt, lt_dec hlt, hw0, hw1, hx, hy, List.length_map, List.getElem?_map, Option.map_some, Int.natCast_nonneg, Int.toNat_natCast]
        refine ⟨rfl, fun hb => ?_, fun hb => ⟨j + 2, by dsimp only; omega, ⟨⟨by omega, by omega⟩, ?_⟩, .back rfl ?_⟩⟩
        · have hlt : decide (l[j].time < l[j + 1].time) = false := by simp at hb ⊢; omega
          rw [← h1, show j + 1 - 1 = j from rfl, hd, hlt]; rfl
        · have hlt : decide (l[j].time < l[j + 1].time) = true := by simp at hb ⊢; omega
          rw [← h1, show j + 1 - 1 = j from rfl, hd, hlt]; rfl
        · simp +contextual only [go_sem, ↓reduceIte, Nat.reduceEqDiff, Nat.reduceAdd, Nat.reduceLeDiff, Nat.reduceLT, reduceCtorEq]
          try rfl
      · have hd : decide ((i : Int) < (l.length : Int)) = false := by simp; omega
        rw [asc_end (by omega)] at h1
        simp +contextual only [go_sem, ↓reduceIte, Nat.reduceEqDiff, Nat.reduceAdd, Nat.reduceLeDiff, Nat.reduceLT, reduceCtorEq, k57, hd, List.length_map]
        exact h1
  · cases h
end Go.Proofs.Ytoccifhckpjfaaa
