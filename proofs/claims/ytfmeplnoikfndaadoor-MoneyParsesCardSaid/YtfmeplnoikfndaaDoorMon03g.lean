/- Amounts: scaling, as the reference does it. -/
import Derived.Test.YtfmeplnoikfndaaDoorMon03e
namespace Go.Proofs.YtfmeplnoikfndaaDoor
set_option linter.all false
open Go.Idl
set_option linter.all false
set_option maxHeartbeats 8000000
set_option maxRecDepth 100000
attribute [local go_sem] Tryd.underlying3 Tryd.underlying45 Tryd.underlying74 Tryd.underlying5 Tryd.underlying9 Tryd.underlying4 Tryd.underlying22
theorem con15 {Φ : Specs} (hg : Idl.Good Tryd.prog Φ) (h31 : Φ 31 = some SMag) (h30 : Φ 30 = some SMul) (h32 : Φ 32 = some SDivR) (h33 : Φ 33 = some SUp)
    (h34 : Φ 34 = some SSgnR) : Contract Tryd.prog 15 SScale := by
  refine conT hg k15 ic15 (by decide) fun C t r h => ?_
  obtain ⟨a, n, d, m, u⟩ := t
  dsimp only at h
  split at h
  case isFalse => cases h
  rename_i hn
  cases h
  obtain ⟨ha, hb, hd⟩ := hn
  by_cases h1 : d < 1
  · have t1 : decide (d < 1) = true := decide_eq_true h1
    rw [scale_den h1]
    simp +contextual only [go_sem, ↓reduceIte, Nat.reduceEqDiff, Nat.reduceAdd, Nat.reduceLeDiff, Nat.reduceLT, reduceCtorEq, c15, k15, t1]
  have t1 : decide (d < 1) = false := decide_eq_false h1
  obtain ⟨D, rfl⟩ : ∃ D : Nat, d = D := ⟨d.toNat, by omega⟩
  by_cases h2 : m < 1 ∨ 4 < m
  · rw [scale_mode h1 h2]
    by_cases h3 : m < 1
    · have t2 : decide (m < 1) = true := decide_eq_true h3
      simp +contextual only [go_sem, ↓reduceIte, Nat.reduceEqDiff, Nat.reduceAdd, Nat.reduceLeDiff, Nat.reduceLT, reduceCtorEq, c15, k15, t1, t2]
    · have t2 : decide (m < 1) = false := decide_eq_false h3
      have t3 : decide (m > 4) = true := by simp; omega
      simp +contextual only [go_sem, ↓reduceIte, Nat.reduceEqDiff, Nat.reduceAdd, Nat.reduceLeDiff, Nat.reduceLT, reduceCtorEq, c15, k15, t1, t2, t3]
  have t2 : decide (m < 1) = false := by simp; omega
  have t3 : decide (m > 4) = false := by simp; omega
  have hD1 : 1 ≤ D := by omega
  have hD : D < 9223372036854775808 := by unfold inI at hd; omega
  have hDw : D % 18446744073709551616 = D := by omega
  rw [scale_go hD1 h2]
  obtain ⟨N, hN⟩ : ∃ N, N = a.natAbs * n.natAbs := ⟨_, rfl⟩
  have hA : a.natAbs < 18446744073709551616 := by unfold inI at ha; omega
  have hB : n.natAbs < 18446744073709551616 := by unfold inI at hb; omega
  have hlo : N % 18446744073709551616 < 18446744073709551616 := Nat.mod_lt _ (by decide)
  have hhi : N / 18446744073709551616 < 18446744073709551616 := by
    rw [Nat.div_lt_iff_lt_mul (by decide), hN]
    exact Nat.mul_lt_mul'' hA hB
  have hdm : N / 18446744073709551616 * 18446744073709551616 + N % 18446744073709551616 = N := by omega
  rw [← hN]
  obtain ⟨neg, hneg⟩ : ∃ neg, neg = (decide (a < 0) != decide (n < 0)) := ⟨_, rfl⟩
  rw [← hneg]
  have hr := Nat.mod_lt N (show D > 0 by omega)
  have hDu : D < 18446744073709551616 := by omega
  have hm1 : 1 ≤ m := by omega
  have hm4 : m ≤ 4 := by omega
  have hNb : N / D < 170141183460469231731687303715884105728 := by
    have h1 := Nat.div_le_self N D
    have h2 : N ≤ 9223372036854775808 * 9223372036854775808 := by
      rw [hN]; exact Nat.mul_le_mul (by unfold inI at ha; omega) (by unfold inI at hb; omega)
    omega
  unfold roundN
  generalize hQ : N / D = q at *
  generalize hR : N % D = r at *
  have fin : ∀ q' : Nat, q' < 18446744073709551616 → (decide (q' ≤ 9223372036854775808) = true ∧ decide (q' < 9223372036854775808) = true ∧ signS true q' = (IntKind.i64.wrap (-(q' : Int)), 0) ∧ signS false q' = (IntKind.i64.wrap (q' : Int), 0)) ∨
      (decide (q' ≤ 9223372036854775808) = true ∧ decide (q' < 9223372036854775808) = false ∧ signS true q' = (IntKind.i64.wrap (-(q' : Int)), 0) ∧ signS false q' = (0, 20)) ∨
      (decide (q' ≤ 9223372036854775808) = false ∧ decide (q' < 9223372036854775808) = false ∧ signS true q' = (0, 20) ∧ signS false q' = (0, 20)) := by
    intro q' hq'
    unfold signS
    rcases Nat.lt_or_ge q' 9223372036854775808 with h | h
    · left
      refine ⟨by simp; omega, by simp; omega, ?_, ?_⟩
      · rw [cond_true, if_pos (by omega), IntKind.wrap_i64, Prod.mk.injEq]; exact ⟨by omega, rfl⟩
      · rw [cond_false, if_pos (by omega), IntKind.wrap_i64, Prod.mk.injEq]; exact ⟨by omega, rfl⟩
    · right
      by_cases he : q' = 9223372036854775808
      · left
        refine ⟨by simp; omega, by simp; omega, ?_, ?_⟩
        · rw [cond_true, if_pos (by omega), IntKind.wrap_i64, Prod.mk.injEq]; exact ⟨by omega, rfl⟩
        · rw [cond_false, if_neg (by omega)]
      · right
        refine ⟨by simp; omega, by simp; omega, ?_, ?_⟩
        · rw [cond_true, if_neg (by omega)]
        · rw [cond_false, if_neg (by omega)]
  have hql : q % 18446744073709551616 < 18446744073709551616 := Nat.mod_lt _ (by decide)
  have hqm : q % 18446744073709551616 % 2 = q % 2 := by omega
  have hod : (((q % 2 : Nat) : Int) == 1) = decide (q % 2 = 1) := by rw [Bool.eq_iff_iff]; simp; omega
  -- the sign of a quotient by its two words
  have fin2 : ∀ q' : Nat, q' / 18446744073709551616 = 0 ∨ q' / 18446744073709551616 ≠ 0 := fun q' => Decidable.em _
  have run : ∀ q' : Nat, (bif neg then (IntKind.i64.wrap (-((q' % 18446744073709551616 : Nat) : Int)), decide (q' / 18446744073709551616 = 0) && decide (q' % 18446744073709551616 ≤ 9223372036854775808)) else (IntKind.i64.wrap ((q' % 18446744073709551616 : Nat) : Int), decide (q' / 18446744073709551616 = 0) && decide (q' % 18446744073709551616 < 9223372036854775808))) = ((signS neg q').1, true) ∧ (signS neg q').2 = 0 ∨
      (∃ x, (bif neg then (IntKind.i64.wrap (-((q' % 18446744073709551616 : Nat) : Int)), decide (q' / 18446744073709551616 = 0) && decide (q' % 18446744073709551616 ≤ 9223372036854775808)) else (IntKind.i64.wrap ((q' % 18446744073709551616 : Nat) : Int), decide (q' / 18446744073709551616 = 0) && decide (q' % 18446744073709551616 < 9223372036854775808))) = (x, false)) ∧ signS neg q' = (0, 20) := by
    intro q'
    by_cases hz : q' / 18446744073709551616 = 0
    · have e : q' % 18446744073709551616 = q' := by omega
      rw [e, decide_eq_true hz]
      rcases fin q' (by omega) with ⟨f1, f2, f3, f4⟩ | ⟨f1, f2, f3, f4⟩ | ⟨f1, f2, f3, f4⟩ <;> cases neg <;> simp only [f1, f2, f3, f4, cond_true, cond_false, Bool.true_and, Bool.and_self]
      all_goals first | exact .inl ⟨trivial, trivial⟩ | exact .inr ⟨⟨_, rfl⟩, trivial⟩
    · right
      rw [decide_eq_false hz]
      refine ⟨?_, sign_big (by omega)⟩
      cases neg <;> exact ⟨_, rfl⟩
  have all : signS neg q = ((signS neg q).1, (signS neg q).2) := rfl
  have r0 : r = 0 ∨ 0 < r := by omega
  cases hu : upS q r D m with
  | false =>
    have hup : upS (bif decide (q % 2 = 1) then 1 else 0) r D m = false := by rw [upS_odd, hu]
    rw [if_neg (by decide), Nat.add_zero]
    rcases r0 with rfl | hr0
    · have t5 : decide ((((0 : Nat)) : Int) > 0) = false := by decide
      rcases run q with ⟨e1, e2⟩ | ⟨⟨x, e1⟩, e2⟩
      · rw [show signS neg q = ((signS neg q).1, 0) by rw [← e2]]
        simp +contextual only [go_sem, ↓reduceIte, Nat.reduceEqDiff, Nat.reduceAdd, Nat.reduceLeDiff, Nat.reduceLT, reduceCtorEq, c15, k15, t1, t2, t3, h31, h30, h32, h33, h34, ha, hb, inU, hA, hB, and_self, ← hN, w_cast, hDw, hD1, hlo, hhi, hdm, hDu, hQ, hR, hr, hm1, hm4, t5, ← hneg, hql, e1]
      · rw [e2]
        simp +contextual only [go_sem, ↓reduceIte, Nat.reduceEqDiff, Nat.reduceAdd, Nat.reduceLeDiff, Nat.reduceLT, reduceCtorEq, c15, k15, t1, t2, t3, h31, h30, h32, h33, h34, ha, hb, inU, hA, hB, and_self, ← hN, w_cast, hDw, hD1, hlo, hhi, hdm, hDu, hQ, hR, hr, hm1, hm4, t5, ← hneg, hql, e1]
    · have t5 : decide ((r : Int) > 0) = true := by simp; omega
      rcases run q with ⟨e1, e2⟩ | ⟨⟨x, e1⟩, e2⟩
      · rw [show signS neg q = ((signS neg q).1, 0) by rw [← e2]]
        simp +contextual only [go_sem, ↓reduceIte, Nat.reduceEqDiff, Nat.reduceAdd, Nat.reduceLeDiff, Nat.reduceLT, reduceCtorEq, c15, k15, t1, t2, t3, h31, h30, h32, h33, h34, ha, hb, inU, hA, hB, and_self, ← hN, w_cast, hDw, hD1, hlo, hhi, hdm, hDu, hQ, hR, hr, hm1, hm4, t5, ← hneg, hql, e1, hqm, hod, hup]
      · rw [e2]
        simp +contextual only [go_sem, ↓reduceIte, Nat.reduceEqDiff, Nat.reduceAdd, Nat.reduceLeDiff, Nat.reduceLT, reduceCtorEq, c15, k15, t1, t2, t3, h31, h30, h32, h33, h34, ha, hb, inU, hA, hB, and_self, ← hN, w_cast, hDw, hD1, hlo, hhi, hdm, hDu, hQ, hR, hr, hm1, hm4, t5, ← hneg, hql, e1, hqm, hod, hup]
  | true =>
    have hup : upS (bif decide (q % 2 = 1) then 1 else 0) r D m = true := by rw [upS_odd, hu]
    have hr0 : 0 < r := upS_rest hu (by omega)
    have t5 : decide ((r : Int) > 0) = true := by simp; omega
    rw [if_pos rfl]
    by_cases he : (q % 18446744073709551616 + 1) % 18446744073709551616 = 0
    · have e4 : (((0 : Nat) : Int) == 0) = true := rfl
      have e5 : (q / 18446744073709551616 + 1) % 18446744073709551616 = (q + 1) / 18446744073709551616 := by omega
      have e6 : (0 : Nat) = (q + 1) % 18446744073709551616 := by omega
      have hq0 : (0 : Nat) < 18446744073709551616 := by omega
      have e7 : (q + 1) / 18446744073709551616 ≠ 0 := by omega
      rw [sign_big (by omega)]
      have e8 : decide ((q + 1) / 18446744073709551616 = 0) = false := decide_eq_false e7
      cases hnn : neg <;> rw [hnn] at hneg
      all_goals
        simp +contextual only [go_sem, ↓reduceIte, Nat.reduceEqDiff, Nat.reduceAdd, Nat.reduceLeDiff, Nat.reduceLT, reduceCtorEq, c15, k15, t1, t2, t3, h31, h30, h32, h33, h34, ha, hb, inU, hA, hB, and_self, ← hN, w_cast, w_inc, hDw, hD1, hlo, hhi, hdm, hDu, hQ, hR, hr, hm1, hm4, t5, ← hneg, hql, hqm, hod, hup, he, e4, e5, hq0, e8, cond_true, cond_false, Bool.false_and]
    · have e1 : (q % 18446744073709551616 + 1) % 18446744073709551616 = (q + 1) % 18446744073709551616 := by omega
      have e4 : ((((q + 1) % 18446744073709551616 : Nat) : Int) == 0) = false := by simp; omega
      have e5 : q / 18446744073709551616 = (q + 1) / 18446744073709551616 := by omega
      have hql2 : (q + 1) % 18446744073709551616 < 18446744073709551616 := Nat.mod_lt _ (by decide)
      rw [e1] at he
      have hrun := run (q + 1)
      generalize hq1 : (q + 1) % 18446744073709551616 = ql1 at *
      generalize hq2 : (q + 1) / 18446744073709551616 = qh1 at *
      rcases hrun with ⟨e7, e8⟩ | ⟨⟨x, e7⟩, e8⟩
      · rw [show signS neg (q + 1) = ((signS neg (q + 1)).1, 0) by rw [← e8]]
        simp +contextual only [go_sem, ↓reduceIte, Nat.reduceEqDiff, Nat.reduceAdd, Nat.reduceLeDiff, Nat.reduceLT, reduceCtorEq, c15, k15, t1, t2, t3, h31, h30, h32, h33, h34, ha, hb, inU, hA, hB, and_self, ← hN, w_cast, w_inc, hDw, hD1, hlo, hhi, hdm, hDu, hQ, hR, hr, hm1, hm4, t5, ← hneg, hql, hqm, hod, hup, e1, e4, e5, hql2, e7]
      · rw [e8]
        simp +contextual only [go_sem, ↓reduceIte, Nat.reduceEqDiff, Nat.reduceAdd, Nat.reduceLeDiff, Nat.reduceLT, reduceCtorEq, c15, k15, t1, t2, t3, h31, h30, h32, h33, h34, ha, hb, inU, hA, hB, and_self, ← hN, w_cast, w_inc, hDw, hD1, hlo, hhi, hdm, hDu, hQ, hR, hr, hm1, hm4, t5, ← hneg, hql, hqm, hod, hup, e1, e4, e5, hql2, e7]
end Go.Proofs.YtfmeplnoikfndaaDoor
