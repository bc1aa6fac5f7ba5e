/- Amounts: rounding. -/
import Derived.Test.YtfmeplnoikfndaaDoorMon03a
import Derived.Test.YtfmeplnoikfndaaDoorMon03n
namespace Go.Proofs.YtfmeplnoikfndaaDoor
set_option linter.all false
open Go.Idl
set_option linter.all false
set_option maxHeartbeats 4000000
set_option maxRecDepth 100000
attribute [local go_sem] Tryd.underlying3 Tryd.underlying45 Tryd.underlying74 Tryd.underlying5 Tryd.underlying9 Tryd.underlying4 Tryd.underlying22
theorem u_rest {r d : Nat} (hr : r < d) (hd : d < 18446744073709551616) : (d + (18446744073709551616 - r % 18446744073709551616)) % 18446744073709551616 = d - r := by omega
abbrev SAway : List V → Option V := FT fun (t : U64 × U64 × U64 × Int × Unit) => if t.2.1.n < t.2.2.1.n ∧ inU t.2.2.1 ∧ 1 ≤ t.2.2.2.1 ∧ t.2.2.2.1 ≤ 4 then some (upS t.1.n t.2.1.n t.2.2.1.n t.2.2.2.1) else none
theorem con28 {Φ : Specs} (hg : Idl.Good Tryd.prog Φ) : Contract Tryd.prog 28 SAway := by
  refine conT hg k28 ic28 (by decide) fun C t r h => ?_
  obtain ⟨⟨q⟩, ⟨rr⟩, ⟨d⟩, m, u⟩ := t
  dsimp only at h
  split at h
  case isFalse => cases h
  rename_i hn
  cases h
  obtain ⟨hr, hd, h1, h4⟩ := hn
  replace hd : d < 18446744073709551616 := hd
  have e := u_rest hr hd
  have hm : m = 1 ∨ m = 2 ∨ m = 3 ∨ m = 4 := by omega
  rcases hm with rfl | rfl | rfl | rfl
  all_goals
    simp +contextual only [go_sem, ↓reduceIte, Nat.reduceEqDiff, Nat.reduceAdd, Nat.reduceLeDiff, Nat.reduceLT, reduceCtorEq, c28, k28, w_sub, e]
    simp [upS]
    try (refine ⟨fun h1 h2 h3 => ?_, fun h1 h2 => ?_⟩ <;> omega)
abbrev SUp : List V → Option V := FT fun (t : Bool × U64 × U64 × Int × Unit) => if t.2.1.n < t.2.2.1.n ∧ inU t.2.2.1 ∧ 1 ≤ t.2.2.2.1 ∧ t.2.2.2.1 ≤ 4 then some (upS (bif t.1 then 1 else 0) t.2.1.n t.2.2.1.n t.2.2.2.1) else none
theorem con33 {Φ : Specs} (hg : Idl.Good Tryd.prog Φ) : Contract Tryd.prog 33 SUp := by
  refine conT hg k33 ic33 (by decide) fun C t r h => ?_
  obtain ⟨odd, ⟨rr⟩, ⟨d⟩, m, u⟩ := t
  dsimp only at h
  split at h
  case isFalse => cases h
  rename_i hn
  cases h
  obtain ⟨hr, hd, h1, h4⟩ := hn
  replace hd : d < 18446744073709551616 := hd
  have e := u_rest hr hd
  have hm : m = 1 ∨ m = 2 ∨ m = 3 ∨ m = 4 := by omega
  rcases hm with rfl | rfl | rfl | rfl <;> cases odd
  all_goals
    simp +contextual only [go_sem, ↓reduceIte, Nat.reduceEqDiff, Nat.reduceAdd, Nat.reduceLeDiff, Nat.reduceLT, reduceCtorEq, c33, k33, w_sub, e]
    simp [upS]
    try (rw [Bool.eq_iff_iff]; simp; omega)
theorem sgn_neg (q : Nat) : IntKind.i64.wrap (IntKind.u64.wrap (0 - (q : Int))) = IntKind.i64.wrap (-(q : Int)) := by rw [IntKind.wrap_i64, IntKind.wrap_i64, IntKind.wrap_u64]; omega
abbrev SSgn : List V → Option V := FT fun (t : U64 × Bool × Unit) => if inU t.1 then some (bif t.2.1 then (IntKind.i64.wrap (-(t.1.n : Int)), decide (t.1.n ≤ 9223372036854775808)) else (IntKind.i64.wrap (t.1.n : Int), decide (t.1.n ≤ 9223372036854775807))) else none
theorem con29 {Φ : Specs} (hg : Idl.Good Tryd.prog Φ) : Contract Tryd.prog 29 SSgn := by
  refine conT hg k29 ic29 (by decide) fun C t r h => ?_
  obtain ⟨⟨q⟩, neg, u⟩ := t
  dsimp only at h
  split at h
  case isFalse => cases h
  rename_i hn
  cases h
  have e1 : decide ((q : Int) ≤ 9223372036854775808) = decide (q ≤ 9223372036854775808) := decide_eq_decide.2 (by omega)
  have e2 : decide ((q : Int) ≤ 9223372036854775807) = decide (q ≤ 9223372036854775807) := decide_eq_decide.2 (by omega)
  cases neg
  all_goals
    simp +contextual only [go_sem, ↓reduceIte, Nat.reduceEqDiff, Nat.reduceAdd, Nat.reduceLeDiff, Nat.reduceLT, reduceCtorEq, c29, k29, sgn_neg, e1, e2]
    rfl
abbrev SSgnR : List V → Option V := FT fun (t : Bool × U64 × U64 × Unit) => if inU t.2.2.1 then some (bif t.1 then (IntKind.i64.wrap (-(t.2.2.1.n : Int)), decide (t.2.1.n = 0) && decide (t.2.2.1.n ≤ 9223372036854775808)) else (IntKind.i64.wrap (t.2.2.1.n : Int), decide (t.2.1.n = 0) && decide (t.2.2.1.n < 9223372036854775808))) else none
theorem con34 {Φ : Specs} (hg : Idl.Good Tryd.prog Φ) : Contract Tryd.prog 34 SSgnR := by
  refine conT hg k34 ic34 (by decide) fun C t r h => ?_
  obtain ⟨neg, ⟨hi⟩, ⟨q⟩, u⟩ := t
  dsimp only at h
  split at h
  case isFalse => cases h
  rename_i hn
  cases h
  have e1 : decide ((q : Int) ≤ 9223372036854775808) = decide (q ≤ 9223372036854775808) := decide_eq_decide.2 (by omega)
  have e2 : decide ((q : Int) < 9223372036854775808) = decide (q < 9223372036854775808) := decide_eq_decide.2 (by omega)
  cases neg <;> by_cases h0 : hi = 0
  all_goals
    have e3 : ((hi : Int) == 0) = decide (hi = 0) := by rw [Bool.eq_iff_iff]; simp
    first | have e4 : decide (hi = 0) = true := decide_eq_true h0 | have e4 : decide (hi = 0) = false := decide_eq_false h0
    simp +contextual only [go_sem, ↓reduceIte, Nat.reduceEqDiff, Nat.reduceAdd, Nat.reduceLeDiff, Nat.reduceLT, reduceCtorEq, c34, k34, sgn_neg, e1, e2, e3, e4, Bool.true_and, Bool.false_and]
    rfl
end Go.Proofs.YtfmeplnoikfndaaDoor
