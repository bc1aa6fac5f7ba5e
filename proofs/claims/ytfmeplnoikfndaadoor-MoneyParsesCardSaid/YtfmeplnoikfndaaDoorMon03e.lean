/- Amounts: scaling. -/
import Derived.Test.YtfmeplnoikfndaaDoorMon03d
namespace Go.Proofs.YtfmeplnoikfndaaDoor
set_option linter.all false
open Go.Idl
set_option linter.all false
set_option maxHeartbeats 8000000
set_option maxRecDepth 100000
attribute [local go_sem] Tryd.underlying3 Tryd.underlying45 Tryd.underlying74 Tryd.underlying5 Tryd.underlying9 Tryd.underlying4 Tryd.underlying22
abbrev SScale : List V → Option V := FT fun (t : Int × Int × Int × Int × Unit) => if inI t.1 ∧ inI t.2.1 ∧ inI t.2.2.1 then some (scaleS t.1 t.2.1 t.2.2.1 t.2.2.2.1) else none
theorem scale_den {a n d m : Int} (h : d < 1) : scaleS a n d m = (0, 1) := by unfold scaleS; rw [if_pos h]
theorem scale_mode {a n d m : Int} (h : ¬ d < 1) (hm : m < 1 ∨ 4 < m) : scaleS a n d m = (0, 2) := by unfold scaleS; rw [if_neg h, if_pos hm]
theorem scale_go {a n m : Int} {D : Nat} (h : 1 ≤ D) (hm : ¬ (m < 1 ∨ 4 < m)) : scaleS a n D m = signS (decide (a < 0) != decide (n < 0)) (roundN (a.natAbs * n.natAbs) D m) := by
  unfold scaleS; rw [if_neg (by omega), if_neg hm]; rfl
theorem sign_big {neg : Bool} {q : Nat} (h : 18446744073709551616 ≤ q) : signS neg q = (0, 20) := by
  unfold signS; cases neg <;> simp <;> omega
theorem quo_big {N D : Nat} (hD : 1 ≤ D) (h : D ≤ N / 18446744073709551616) : 18446744073709551616 ≤ N / D := by
  rw [Nat.le_div_iff_mul_le (by omega)]
  have := Nat.mul_le_mul_left 18446744073709551616 h
  omega
theorem quo_small {N D : Nat} (hD : 1 ≤ D) (h : N / 18446744073709551616 < D) : N / D < 18446744073709551616 := by
  rw [Nat.div_lt_iff_lt_mul (by omega)]
  have := Nat.mul_le_mul_left 18446744073709551616 (show N / 18446744073709551616 + 1 ≤ D from h)
  omega
theorem upS_odd (q r d : Nat) (m : Int) : upS (bif decide (q % 2 = 1) then 1 else 0) r d m = upS q r d m := by
  unfold upS
  rcases Nat.mod_two_eq_zero_or_one q with h | h <;> simp [h]
theorem con14 {Φ : Specs} (hg : Idl.Good Tryd.prog Φ) (h25 : Φ 25 = some SSize) (h26 : Φ 26 = some SMul) (h27 : Φ 27 = some SDiv) (h28 : Φ 28 = some SAway)
    (h29 : Φ 29 = some SSgn) : Contract Tryd.prog 14 SScale := by
  refine conT hg k14 ic14 (by decide) fun C t r h => ?_
  obtain ⟨a, n, d, m, u⟩ := t
  dsimp only at h
  split at h
  case isFalse => cases h
  rename_i hn
  cases h
  obtain ⟨ha, hb, hd⟩ := hn
  by_cases h1 : d < 1
  · have t1 : decide (d < 1) = true := decide_eq_true h1
    rw [scale_den h1]
    simp +contextual only [go_sem, ↓reduceIte, Nat.reduceEqDiff, Nat.reduceAdd, Nat.reduceLeDiff, Nat.reduceLT, reduceCtorEq, c14, k14, t1]
  have t1 : decide (d < 1) = false := decide_eq_false h1
  obtain ⟨D, rfl⟩ : ∃ D : Nat, d = D := ⟨d.toNat, by omega⟩
  by_cases h2 : m < 1 ∨ 4 < m
  · rw [scale_mode h1 h2]
    by_cases h3 : m < 1
    · have t2 : decide (m < 1) = true := decide_eq_true h3
      simp +contextual only [go_sem, ↓reduceIte, Nat.reduceEqDiff, Nat.reduceAdd, Nat.reduceLeDiff, Nat.reduceLT, reduceCtorEq, c14, k14, t1, t2]
    · have t2 : decide (m < 1) = false := decide_eq_false h3
      have t3 : decide (m > 4) = true := by simp; omega
      simp +contextual only [go_sem, ↓reduceIte, Nat.reduceEqDiff, Nat.reduceAdd, Nat.reduceLeDiff, Nat.reduceLT, reduceCtorEq, c14, k14, t1, t2, t3]
  have t2 : decide (m < 1) = false := by simp; omega
  have t3 : decide (m > 4) = false := by simp; omega
  have hD1 : 1 ≤ D := by omega
  have hD : D < 9223372036854775808 := by unfold inI at hd; omega
  have hDw : D % 18446744073709551616 = D := by omega
  rw [scale_go hD1 h2]
  obtain ⟨N, hN⟩ : ∃ N, N = a.natAbs * n.natAbs := ⟨_, rfl⟩
  have hA : a.natAbs < 18446744073709551616 := by unfold inI at ha; omega
  have hB : n.natAbs < 18446744073709551616 := by unfold inI at hb; omega
  have hlo : N % 18446744073709551616 < 18446744073709551616 := Nat.mod_lt _ (by decide)
  have hhi : N / 18446744073709551616 < 18446744073709551616 := by
    rw [Nat.div_lt_iff_lt_mul (by decide), hN]
    exact Nat.mul_lt_mul'' hA hB
  have hdm : N / 18446744073709551616 * 18446744073709551616 + N % 18446744073709551616 = N := by omega
  rw [← hN]
  obtain ⟨neg, hneg⟩ : ∃ neg, neg = (decide (a < 0) != decide (n < 0)) := ⟨_, rfl⟩
  rw [← hneg]
  rcases Nat.lt_or_ge (N / 18446744073709551616) D with h4 | h4
  case inr =>
    have t4 : decide ((((N / 18446744073709551616 : Nat)) : Int) ≥ (D : Int)) = true := by simp only [decide_eq_true_eq]; omega
    have hq := quo_big hD1 h4
    rw [sign_big (Nat.le_trans hq (by unfold roundN; omega))]
    simp +contextual only [go_sem, ↓reduceIte, Nat.reduceEqDiff, Nat.reduceAdd, Nat.reduceLeDiff, Nat.reduceLT, reduceCtorEq, c14, k14, t1, t2, t3, h25, h26, ha, hb, inU, hA, hB, and_self, ← hN, w_cast, hDw, t4]
  have t4 : decide ((((N / 18446744073709551616 : Nat)) : Int) ≥ (D : Int)) = false := by simp only [decide_eq_false_iff_not]; omega
  have hq := quo_small hD1 h4
  have hr := Nat.mod_lt N (show D > 0 by omega)
  have hDu : D < 18446744073709551616 := by omega
  have hm1 : 1 ≤ m := by omega
  have hm4 : m ≤ 4 := by omega
  unfold roundN
  generalize hQ : N / D = q at *
  generalize hR : N % D = r at *
  have fin : ∀ q' : Nat, q' < 18446744073709551616 → (decide (q' ≤ 9223372036854775808) = true ∧ decide (q' ≤ 9223372036854775807) = true ∧ signS true q' = (IntKind.i64.wrap (-(q' : Int)), 0) ∧ signS false q' = (IntKind.i64.wrap (q' : Int), 0)) ∨
      (decide (q' ≤ 9223372036854775808) = true ∧ decide (q' ≤ 9223372036854775807) = false ∧ signS true q' = (IntKind.i64.wrap (-(q' : Int)), 0) ∧ signS false q' = (0, 20)) ∨
      (decide (q' ≤ 9223372036854775808) = false ∧ decide (q' ≤ 9223372036854775807) = false ∧ signS true q' = (0, 20) ∧ signS false q' = (0, 20)) := by
    intro q' hq'
    unfold signS
    rcases Nat.lt_or_ge q' 9223372036854775808 with h | h
    · left
      refine ⟨by simp; omega, by simp; omega, ?_, ?_⟩
      · rw [cond_true, if_pos (by omega), IntKind.wrap_i64, Prod.mk.injEq]; exact ⟨by omega, rfl⟩
      · rw [cond_false, if_pos (by omega), IntKind.wrap_i64, Prod.mk.injEq]; exact ⟨by omega, rfl⟩
    · right
      by_cases he : q' = 9223372036854775808
      · left
        refine ⟨by simp; omega, by simp; omega, ?_, ?_⟩
        · rw [cond_true, if_pos (by omega), IntKind.wrap_i64, Prod.mk.injEq]; exact ⟨by omega, rfl⟩
        · rw [cond_false, if_neg (by omega)]
      · right
        refine ⟨by simp; omega, by simp; omega, ?_, ?_⟩
        · rw [cond_true, if_neg (by omega)]
        · rw [cond_false, if_neg (by omega)]
  cases hu : upS q r D m with
  | false =>
    rw [if_neg (by decide), Nat.add_zero]
    cases hnn : neg <;> rw [hnn] at hneg <;> rcases fin q hq with ⟨f1, f2, f3, f4⟩ | ⟨f1, f2, f3, f4⟩ | ⟨f1, f2, f3, f4⟩
    all_goals
      first | rw [f3] | rw [f4]
      simp +contextual only [go_sem, ↓reduceIte, Nat.reduceEqDiff, Nat.reduceAdd, Nat.reduceLeDiff, Nat.reduceLT, reduceCtorEq, c14, k14, t1, t2, t3, h25, h26, h27, h28, h29, ha, hb, inU, hA, hB, and_self, ← hN, w_cast, hDw, t4, hlo, hhi, hdm, hDu, h4, hQ, hR, hr, hm1, hm4, hu, ← hneg, hq, f1, f2, cond_true, cond_false]
  | true =>
    rw [if_pos rfl]
    by_cases he : q + 1 = 18446744073709551616
    · have e1 : (q + 1) % 18446744073709551616 = 0 := by omega
      have e2 : (((0 : Nat) : Int) == 0) = true := rfl
      rw [sign_big (by omega)]
      simp +contextual only [go_sem, ↓reduceIte, Nat.reduceEqDiff, Nat.reduceAdd, Nat.reduceLeDiff, Nat.reduceLT, reduceCtorEq, c14, k14, t1, t2, t3, h25, h26, h27, h28, h29, ha, hb, inU, hA, hB, and_self, ← hN, w_cast, w_inc, hDw, t4, hlo, hhi, hdm, hDu, h4, hQ, hR, hr, hm1, hm4, hu, e1, e2]
    · obtain ⟨q', hq'⟩ : ∃ q', q' = q + 1 := ⟨_, rfl⟩
      have e1 : (q + 1) % 18446744073709551616 = q' := by omega
      have hq1 : q' < 18446744073709551616 := by omega
      have e2 : ((q' : Int) == 0) = false := by simp; omega
      rw [← hq']
      cases hnn : neg <;> rw [hnn] at hneg <;> rcases fin q' hq1 with ⟨f1, f2, f3, f4⟩ | ⟨f1, f2, f3, f4⟩ | ⟨f1, f2, f3, f4⟩
      all_goals
        first | rw [f3] | rw [f4]
        simp +contextual only [go_sem, ↓reduceIte, Nat.reduceEqDiff, Nat.reduceAdd, Nat.reduceLeDiff, Nat.reduceLT, reduceCtorEq, c14, k14, t1, t2, t3, h25, h26, h27, h28, h29, ha, hb, inU, hA, hB, and_self, ← hN, w_cast, w_inc, hDw, t4, hlo, hhi, hdm, hDu, h4, hQ, hR, hr, hm1, hm4, hu, ← hneg, hq, hq1, e1, e2, f1, f2, cond_true, cond_false]
abbrev SRound : List V → Option V := FT fun (t : Int × Int × Int × Unit) => if inI t.1 ∧ inI t.2.1 then some (scaleS t.1 1 t.2.1 t.2.2.1) else none
theorem inI_one : inI 1 := by unfold inI; omega
theorem con11 {Φ : Specs} (hg : Idl.Good Tryd.prog Φ) (h14 : Φ 14 = some SScale) : Contract Tryd.prog 11 SRound := by
  refine conT hg k11 ic11 (by decide) fun C t r h => ?_
  obtain ⟨a, d, m, u⟩ := t
  dsimp only at h
  split at h
  case isFalse => cases h
  rename_i hn
  cases h
  simp +contextual only [go_sem, ↓reduceIte, Nat.reduceEqDiff, Nat.reduceAdd, Nat.reduceLeDiff, Nat.reduceLT, reduceCtorEq, c11, k11, h14, hn.1, hn.2, inI_one, and_self]
theorem con12 {Φ : Specs} (hg : Idl.Good Tryd.prog Φ) (h15 : Φ 15 = some SScale) : Contract Tryd.prog 12 SRound := by
  refine conT hg k12 ic12 (by decide) fun C t r h => ?_
  obtain ⟨a, d, m, u⟩ := t
  dsimp only at h
  split at h
  case isFalse => cases h
  rename_i hn
  cases h
  simp +contextual only [go_sem, ↓reduceIte, Nat.reduceEqDiff, Nat.reduceAdd, Nat.reduceLeDiff, Nat.reduceLT, reduceCtorEq, c12, k12, h15, hn.1, hn.2, inI_one, and_self]
end Go.Proofs.YtfmeplnoikfndaaDoor
