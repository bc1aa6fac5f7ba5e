/- Amounts: long division. -/
import Derived.Test.YtfmeplnoikfndaaDoorMon03b
import Derived.Test.YtfmeplnoikfndaaDoorMon03p
namespace Go.Proofs.YtfmeplnoikfndaaDoor
set_option linter.all false
open Go.Idl
set_option linter.all false
set_option maxHeartbeats 8000000
set_option maxRecDepth 100000
attribute [local go_sem] Tryd.underlying3 Tryd.underlying45 Tryd.underlying74 Tryd.underlying5 Tryd.underlying9 Tryd.underlying4 Tryd.underlying22
abbrev SDivR : List V → Option V := FT fun (t : U64 × U64 × U64 × Unit) => if inU t.1 ∧ inU t.2.1 ∧ inU t.2.2.1 ∧ 1 ≤ t.2.2.1.n then
  some ((⟨(t.1.n * 18446744073709551616 + t.2.1.n) / t.2.2.1.n / 18446744073709551616⟩ : U64), (⟨(t.1.n * 18446744073709551616 + t.2.1.n) / t.2.2.1.n % 18446744073709551616⟩ : U64), (⟨(t.1.n * 18446744073709551616 + t.2.1.n) % t.2.2.1.n⟩ : U64)) else none
theorem con32 {Φ : Specs} (hg : Idl.Good Tryd.prog Φ) : Contract Tryd.prog 32 SDivR := by
  refine conT hg k32 ic32 (by decide) fun C t r h => ?_
  obtain ⟨⟨hi⟩, ⟨lo⟩, ⟨d⟩, u⟩ := t
  dsimp only at h
  split at h
  case isFalse => cases h
  rename_i hn
  cases h
  obtain ⟨hh, hl, hd, hd1⟩ := hn
  replace hh : hi < 18446744073709551616 := hh
  replace hl : lo < 18446744073709551616 := hl
  replace hd : d < 18446744073709551616 := hd
  obtain ⟨N, hN⟩ : ∃ N, N = hi * 18446744073709551616 + lo := ⟨_, rfl⟩
  have hNb : N < 340282366920938463463374607431768211456 := by omega
  rw [← hN]
  simp +contextual only [go_sem, ↓reduceIte, Nat.reduceEqDiff, Nat.reduceAdd, Nat.reduceLeDiff, Nat.reduceLT, reduceCtorEq, c32, k32]
  refine TriI.loopA hg k32 (fun p : Nat × Nat × Nat × Nat => ⟨slotsL [(0, .sc (.int .u64 (p.2.1 : Nat))), (1, .sc (.int .u64 (p.2.2.1 : Nat))), (2, .sc (.int .u64 (d : Nat))), (9, .sc (.int .u64 ((p.2.2.2 / d / 18446744073709551616 : Nat) : Int))), (10, .sc (.int .u64 ((p.2.2.2 / d % 18446744073709551616 : Nat) : Int))), (11, .sc (.int .u64 ((p.2.2.2 % d : Nat) : Int))), (12, .sc (.int .i64 (p.1 : Nat)))], objsL [], 0⟩)
    (fun p => p.1 ≤ 128 ∧ p.2.1 < 18446744073709551616 ∧ p.2.2.1 < 18446744073709551616 ∧ N * 2 ^ p.1 = p.2.2.2 * 340282366920938463463374607431768211456 + (p.2.1 * 18446744073709551616 + p.2.2.1)) (fun p => 128 - p.1) (0, hi, lo, 0) (.back rfl ?_) ⟨Nat.zero_le _, hh, hl, by simp; omega⟩ ?_
  · simp +contextual only [go_sem, ↓reduceIte, Nat.reduceEqDiff, Nat.reduceAdd, Nat.reduceLeDiff, Nat.reduceLT, reduceCtorEq, Nat.zero_div, Nat.zero_mod]
    rfl
  · rintro ⟨i, hi, lo, P⟩ ⟨h1, h2, h3, h4⟩
    dsimp only at h1 h2 h3 h4 ⊢
    have hP := bits_P hNb h1 h4
    rcases Nat.lt_or_ge i 128 with hlt | hge
    · obtain ⟨g1, g2, g3⟩ := bits_next h4 (by omega)
      have hb : (hi * 18446744073709551616 + lo) / 170141183460469231731687303715884105728 = hi / 9223372036854775808 := by omega
      rw [hb] at g1 g2 g3
      obtain ⟨s1, s2⟩ := bit_step (P := P) (d := d) (b := hi / 9223372036854775808) (by omega) g1
      have hr := Nat.mod_lt P (show d > 0 by omega)
      have hq : P / d < 340282366920938463463374607431768211456 := Nat.lt_of_le_of_lt (Nat.div_le_self _ _) hP
      have hP2 := bits_P hNb (show i + 1 ≤ 128 by omega) g2
      have hq2 : (2 * P + hi / 9223372036854775808) / d < 340282366920938463463374607431768211456 := Nat.lt_of_le_of_lt (Nat.div_le_self _ _) hP2
      generalize hP' : 2 * P + hi / 9223372036854775808 = P' at *
      generalize hQ : P / d = q at *
      generalize hR : P % d = r at *
      have hd0 : decide (((i : Nat) : Int) < 128) = true := by simp; omega
      have hi1 : IntKind.i64.wrap ((i : Int) + 1) = ((i + 1 : Nat) : Int) := by rw [IntKind.wrap_i64]; omega
      rcases Nat.lt_or_ge (2 * r + hi / 9223372036854775808) d with hc | hc
      · obtain ⟨e1, e2⟩ := s1 hc
        have t1 : (((r / 9223372036854775808 : Nat) : Int) == 1) = false := by
          have : r / 9223372036854775808 = 0 := by omega
          rw [this]; rfl
        have t2 : decide (((((2 * r % 18446744073709551616 + hi / 9223372036854775808) % 18446744073709551616 : Nat)) : Int) ≥ (d : Int)) = false := by simp; omega
        simp +contextual only [go_sem, ↓reduceIte, Nat.reduceEqDiff, Nat.reduceAdd, Nat.reduceLeDiff, Nat.reduceLT, reduceCtorEq, k32, hd0, hi1, w_add, t1, t2]
        refine ⟨(i + 1, (2 * hi % 18446744073709551616 + lo / 9223372036854775808) % 18446744073709551616, 2 * lo % 18446744073709551616, P'), by dsimp only; omega, ⟨by dsimp only; omega, by dsimp only; omega, by dsimp only; omega, by dsimp only; omega⟩, .back rfl ?_⟩
        have f1 : P' / d / 18446744073709551616 = (2 * (q / 18446744073709551616) % 18446744073709551616 + q % 18446744073709551616 / 9223372036854775808) % 18446744073709551616 := by omega
        have f2 : P' / d % 18446744073709551616 = 2 * (q % 18446744073709551616) % 18446744073709551616 := by omega
        have f3 : P' % d = (2 * r % 18446744073709551616 + hi / 9223372036854775808) % 18446744073709551616 := by omega
        simp +contextual only [go_sem, ↓reduceIte, Nat.reduceEqDiff, Nat.reduceAdd, Nat.reduceLeDiff, Nat.reduceLT, reduceCtorEq, f1, f2, f3]
      · obtain ⟨e1, e2⟩ := s2 hc
        have f1 : P' / d / 18446744073709551616 = (2 * (q / 18446744073709551616) % 18446744073709551616 + q % 18446744073709551616 / 9223372036854775808) % 18446744073709551616 := by omega
        have f2 : P' / d % 18446744073709551616 = (2 * (q % 18446744073709551616) % 18446744073709551616 + 1) % 18446744073709551616 := by omega
        have f3 : P' % d = ((2 * r % 18446744073709551616 + hi / 9223372036854775808) % 18446744073709551616 + (18446744073709551616 - d % 18446744073709551616)) % 18446744073709551616 := by omega
        rcases Nat.lt_or_ge r 9223372036854775808 with ht | ht
        · have t1 : (((r / 9223372036854775808 : Nat) : Int) == 1) = false := by
            have : r / 9223372036854775808 = 0 := by omega
            rw [this]; rfl
          have t2 : decide (((((2 * r % 18446744073709551616 + hi / 9223372036854775808) % 18446744073709551616 : Nat)) : Int) ≥ (d : Int)) = true := by simp; omega
          simp +contextual only [go_sem, ↓reduceIte, Nat.reduceEqDiff, Nat.reduceAdd, Nat.reduceLeDiff, Nat.reduceLT, reduceCtorEq, k32, hd0, hi1, w_add, w_sub, w_inc, t1, t2]
          refine ⟨(i + 1, (2 * hi % 18446744073709551616 + lo / 9223372036854775808) % 18446744073709551616, 2 * lo % 18446744073709551616, P'), by dsimp only; omega, ⟨by dsimp only; omega, by dsimp only; omega, by dsimp only; omega, by dsimp only; omega⟩, .back rfl ?_⟩
          simp +contextual only [go_sem, ↓reduceIte, Nat.reduceEqDiff, Nat.reduceAdd, Nat.reduceLeDiff, Nat.reduceLT, reduceCtorEq, f1, f2, f3]
        · have t1 : (((r / 9223372036854775808 : Nat) : Int) == 1) = true := by
            have : r / 9223372036854775808 = 1 := by omega
            rw [this]; rfl
          simp +contextual only [go_sem, ↓reduceIte, Nat.reduceEqDiff, Nat.reduceAdd, Nat.reduceLeDiff, Nat.reduceLT, reduceCtorEq, k32, hd0, hi1, w_add, w_sub, w_inc, t1]
          refine ⟨(i + 1, (2 * hi % 18446744073709551616 + lo / 9223372036854775808) % 18446744073709551616, 2 * lo % 18446744073709551616, P'), by dsimp only; omega, ⟨by dsimp only; omega, by dsimp only; omega, by dsimp only; omega, by dsimp only; omega⟩, .back rfl ?_⟩
          simp +contextual only [go_sem, ↓reduceIte, Nat.reduceEqDiff, Nat.reduceAdd, Nat.reduceLeDiff, Nat.reduceLT, reduceCtorEq, f1, f2, f3]
    · have hi8 : i = 128 := by omega
      subst hi8
      have hPN : P = N := bits_end (M := hi * 18446744073709551616 + lo) (by rw [← h4]) (by omega)
      subst hPN
      have hd0 : decide ((((128 : Nat)) : Int) < 128) = false := by decide
      simp +contextual only [go_sem, ↓reduceIte, Nat.reduceEqDiff, Nat.reduceAdd, Nat.reduceLeDiff, Nat.reduceLT, reduceCtorEq, k32, hd0]
end Go.Proofs.YtfmeplnoikfndaaDoor
