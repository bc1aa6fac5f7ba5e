/- Amounts: Div64. -/
import Derived.Test.YtfmeplnoikfndaaDoorMon03c
import Derived.Laws.Bits64b
namespace Go.Proofs.YtfmeplnoikfndaaDoor
set_option linter.all false
open Go.Idl
set_option linter.all false
set_option maxHeartbeats 16000000
set_option maxRecDepth 100000
attribute [local go_sem] Tryd.underlying3 Tryd.underlying45 Tryd.underlying74 Tryd.underlying5 Tryd.underlying9 Tryd.underlying4 Tryd.underlying22
section
variable {P : Program} (ρ : Operand → V) (o : Oper) (isB : Bool) (a s : Nat)
@[go_sem ↓] theorem u_shlN : evBin P ρ o .shl isB (.sc (.int .u64 (a : Int))) (.sc (.int .u64 (s : Int))) = some (.sc (.int .u64 ((a * 2 ^ min s 64 % 18446744073709551616 : Nat) : Int)), []) := by
  rw [bin_shl ρ o isB .u64 _ _ .u64 (by omega)]
  have : (min (Int.toNat (s : Int)) IntKind.u64.bits) = min s 64 := by rw [Int.toNat_natCast]; rfl
  rw [this, IntKind.wrap_u64]
  congr 4
@[go_sem ↓] theorem u_shrN : evBin P ρ o .shr isB (.sc (.int .u64 (a : Int))) (.sc (.int .u64 (s : Int))) = some (.sc (.int .u64 ((a / 2 ^ min s 64 : Nat) : Int)), []) := by
  rw [bin_shr ρ o isB .u64 _ _ .u64 (by omega)]
  have : (min (Int.toNat (s : Int)) IntKind.u64.bits) = min s 64 := by rw [Int.toNat_natCast]; rfl
  rw [this, Int.fdiv_eq_ediv_of_nonneg _ (by exact Int.natCast_nonneg (2 ^ min s 64))]
  rfl
end
theorem and_mask (a : Nat) (h : a < 18446744073709551616) : andI .u64 (a : Int) 4294967295 = ((a % 4294967296 : Nat) : Int) := by
  have h2 := Go.bits_and_u64_nat a 4294967295 h (by omega)
  have e : a &&& 4294967295 = a % 4294967296 := Nat.and_two_pow_sub_one_eq_mod a 32
  rw [e] at h2
  exact h2
theorem or_add (a b s : Nat) (h : a * 2 ^ s < 18446744073709551616) (hb : b < 2 ^ s) (hs : s ≤ 63) : orI .u64 ((a * 2 ^ s : Nat) : Int) (b : Int) = ((a * 2 ^ s + b : Nat) : Int) := by
  have h3 : (2 : Nat) ^ s ≤ 2 ^ 63 := Nat.pow_le_pow_right (by decide) hs
  have h2 := Go.bits_or_u64_nat (a * 2 ^ s) b h (by omega)
  have e := Nat.shiftLeft_add_eq_or_of_lt hb a
  rw [Nat.shiftLeft_eq] at e
  rw [← e] at h2
  exact h2
theorem w_cast (a : Nat) : IntKind.u64.wrap (a : Int) = ((a % 18446744073709551616 : Nat) : Int) := by rw [IntKind.wrap_u64]; omega
theorem w_b32 (a : Nat) : IntKind.u64.wrap (4294967296 * (a : Int)) = ((4294967296 * a % 18446744073709551616 : Nat) : Int) := by rw [IntKind.wrap_u64]; omega
theorem w_32b (a : Nat) : IntKind.u64.wrap ((a : Int) * 4294967296) = ((a * 4294967296 % 18446744073709551616 : Nat) : Int) := by rw [IntKind.wrap_u64]; omega
theorem w_64s (a : Nat) (h : a ≤ 64) : IntKind.u64.wrap (64 - (a : Int)) = ((64 - a : Nat) : Int) := by rw [IntKind.wrap_u64]; omega
abbrev SLz : List V → Option V := FT fun (t : U64 × Unit) => if inU t.1 ∧ 1 ≤ t.1.n then some (((63 - Nat.log2 t.1.n : Nat) : Int)) else none
abbrev SDiv : List V → Option V := FT fun (t : U64 × U64 × U64 × Unit) => if inU t.1 ∧ inU t.2.1 ∧ inU t.2.2.1 ∧ t.1.n < t.2.2.1.n then
  some ((⟨(t.1.n * 18446744073709551616 + t.2.1.n) / t.2.2.1.n⟩ : U64), (⟨(t.1.n * 18446744073709551616 + t.2.1.n) % t.2.2.1.n⟩ : U64)) else none
theorem div_norm {hi lo y s : Nat} (hy : 0 < y) (hy2 : y < 18446744073709551616) (hs : s = 63 - Nat.log2 y) (hl : lo < 18446744073709551616) (hh : hi < y) :
    s ≤ 63 ∧ 9223372036854775808 ≤ y * 2 ^ s ∧ y * 2 ^ s < 18446744073709551616 ∧ hi * 2 ^ s < 18446744073709551616 ∧ lo / 2 ^ (64 - s) < 2 ^ s ∧
      (hi * 18446744073709551616 + lo) * 2 ^ s = (hi * 2 ^ s + lo / 2 ^ (64 - s)) * 18446744073709551616 + lo * 2 ^ s % 18446744073709551616 ∧ hi * 2 ^ s + lo / 2 ^ (64 - s) < y * 2 ^ s := by
  have h1 := Nat.log2_self_le (n := y) (by omega)
  have h2 := Nat.lt_log2_self (n := y)
  have h3 : Nat.log2 y ≤ 63 := by
    by_cases h : Nat.log2 y ≤ 63
    · exact h
    · have : (2 : Nat) ^ 64 ≤ 2 ^ Nat.log2 y := Nat.pow_le_pow_right (by decide) (by omega)
      omega
  have hs1 : s ≤ 63 := by omega
  have p1 : 2 ^ Nat.log2 y * 2 ^ s = 2 ^ 63 := by rw [← Nat.pow_add]; congr 1; omega
  have p2 : 2 ^ (Nat.log2 y + 1) * 2 ^ s = 2 ^ 64 := by rw [← Nat.pow_add]; congr 1; omega
  have p3 : 2 ^ s * 2 ^ (64 - s) = 2 ^ 64 := by rw [← Nat.pow_add]; congr 1; omega
  have hp : 0 < 2 ^ s := Nat.two_pow_pos s
  have a1 : 2 ^ 63 ≤ y * 2 ^ s := by rw [← p1]; exact Nat.mul_le_mul_right _ h1
  have a2 : y * 2 ^ s < 2 ^ 64 := by rw [← p2]; exact Nat.mul_lt_mul_of_pos_right h2 hp
  have a3 : (hi + 1) * 2 ^ s ≤ y * 2 ^ s := Nat.mul_le_mul_right _ hh
  have a4 : lo / 2 ^ (64 - s) < 2 ^ s := by
    rw [Nat.div_lt_iff_lt_mul (Nat.two_pow_pos _), p3]; exact hl
  have a5 : lo * 2 ^ s / 18446744073709551616 = lo / 2 ^ (64 - s) := by
    have e : (18446744073709551616 : Nat) = 2 ^ (64 - s) * 2 ^ s := by rw [Nat.mul_comm, p3]
    rw [e, Nat.mul_div_mul_right _ _ hp]
  have a6 := Nat.div_add_mod (lo * 2 ^ s) 18446744073709551616
  rw [a5] at a6
  have e63 : (2 : Nat) ^ 63 = 9223372036854775808 := by decide
  have e64 : (2 : Nat) ^ 64 = 18446744073709551616 := by decide
  rw [e63] at a1
  rw [e64] at a2
  rw [Nat.add_mul] at a3
  refine ⟨hs1, a1, a2, by omega, a4, ?_, by omega⟩
  rw [Nat.add_mul, Nat.add_mul, Nat.mul_right_comm]
  omega
theorem con27 {Φ : Specs} (hg : Idl.Good Tryd.prog Φ) (h44 : Φ 44 = some SLz) : Contract Tryd.prog 27 SDiv := by
  refine conT hg k27 ic27 (by decide) fun C t r h => ?_
  obtain ⟨⟨hi⟩, ⟨lo⟩, ⟨y⟩, u⟩ := t
  dsimp only at h
  split at h
  case isFalse => cases h
  rename_i hn
  cases h
  obtain ⟨hh, hl, hd, hlt⟩ := hn
  replace hh : hi < 18446744073709551616 := hh
  replace hl : lo < 18446744073709551616 := hl
  replace hd : y < 18446744073709551616 := hd
  replace hlt : hi < y := hlt
  have hy : 0 < y := by omega
  have hy1 : 1 ≤ y := hy
  have z1 : ((y : Int) == 0) = false := by simp; omega
  have z2 : decide ((y : Int) ≤ (hi : Int)) = false := by simp; omega
  have hy0 : y ≠ 0 := by omega
  by_cases h0 : hi = 0
  · subst h0
    have z3 : (((0 : Nat) : Int) == 0) = true := rfl
    have e1 : lo / y % 18446744073709551616 = lo / y := Nat.mod_eq_of_lt (Nat.lt_of_le_of_lt (Nat.div_le_self _ _) hl)
    have e2 : 0 * 18446744073709551616 + lo = lo := by omega
    simp +contextual only [go_sem, ↓reduceIte, Nat.reduceEqDiff, Nat.reduceAdd, Nat.reduceLeDiff, Nat.reduceLT, reduceCtorEq, c27, k27, z1, z2, z3, hy0, ne_eq, not_false_eq_true, e1, e2]
    rfl
  · have z3 : ((hi : Int) == 0) = false := by simp; omega
    obtain ⟨s, hs⟩ : ∃ s, s = 63 - Nat.log2 y := ⟨_, rfl⟩
    obtain ⟨n1, n2, n3, n4, n5, n6, n7⟩ := div_norm hy hd hs hl hlt
    have m1 : min s 64 = s := by omega
    have m2 : min (64 - s) 64 = 64 - s := by omega
    have m3 : s % 18446744073709551616 = s := by omega
    have m4 : hi * 2 ^ s % 18446744073709551616 = hi * 2 ^ s := Nat.mod_eq_of_lt n4
    have m5 : y * 2 ^ s % 18446744073709551616 = y * 2 ^ s := Nat.mod_eq_of_lt n3
    have m6 := w_64s s (by omega)
    have m7 := or_add hi (lo / 2 ^ (64 - s)) s n4 n5 n1
    have hsh := div_shift (hi * 18446744073709551616 + lo) y (2 ^ s) hy (Nat.two_pow_pos s)
    have hq : (hi * 18446744073709551616 + lo) / y < 18446744073709551616 := by
      rw [Nat.div_lt_iff_lt_mul hy]
      have : (hi + 1) * 18446744073709551616 ≤ y * 18446744073709551616 := Nat.mul_le_mul_right _ hlt
      rw [Nat.mul_comm 18446744073709551616]; omega
    rw [n6] at hsh
    obtain ⟨N, hN⟩ : ∃ N, N = hi * 18446744073709551616 + lo := ⟨_, rfl⟩
    rw [← hN] at hq hsh ⊢
    obtain ⟨un, hun⟩ : ∃ un, un = hi * 2 ^ s + lo / 2 ^ (64 - s) := ⟨_, rfl⟩
    rw [← hun] at hsh m7 n7
    have hX : lo * 2 ^ s % 18446744073709551616 < 18446744073709551616 := Nat.mod_lt _ (by decide)
    have andY := and_mask (y * 2 ^ s) n3
    have andX := and_mask (lo * 2 ^ s % 18446744073709551616) hX
    have hYd : y * 2 ^ s = y * 2 ^ s / 4294967296 * 4294967296 + y * 2 ^ s % 4294967296 := by omega
    have hy1' : 2147483648 ≤ y * 2 ^ s / 4294967296 := by omega
    have hy0' : y * 2 ^ s % 4294967296 < 4294967296 := by omega
    have hX1 : lo * 2 ^ s % 18446744073709551616 / 4294967296 < 4294967296 := by omega
    have hX0 : lo * 2 ^ s % 18446744073709551616 % 4294967296 < 4294967296 := by omega
    have hXd : un * 18446744073709551616 + lo * 2 ^ s % 18446744073709551616 = (un * 4294967296 + lo * 2 ^ s % 18446744073709551616 / 4294967296) * 4294967296 + lo * 2 ^ s % 18446744073709551616 % 4294967296 := by omega
    rw [hXd] at hsh
    have hY0 : 0 < y * 2 ^ s := by omega
    obtain ⟨dt1, dt2⟩ := div_two (U := un * 4294967296 + lo * 2 ^ s % 18446744073709551616 / 4294967296) (u0 := lo * 2 ^ s % 18446744073709551616 % 4294967296) hY0
    rw [dt1, dt2] at hsh
    have tp := est_top n7 hX1
    have ini := est_init hYd (by omega) hX1 (un := un)
    have bnd := est_bound hYd hy1' hy0' n7
    have hR := Nat.mod_lt (un * 4294967296 + lo * 2 ^ s % 18446744073709551616 / 4294967296) hY0
    have hdm := Nat.div_add_mod (un * 4294967296 + lo * 2 ^ s % 18446744073709551616 / 4294967296) (y * 2 ^ s)
    have tp2 := est_top hR hX0
    have ini2 := est_init hYd (by omega) hX0 (un := (un * 4294967296 + lo * 2 ^ s % 18446744073709551616 / 4294967296) % (y * 2 ^ s))
    have bnd2 := est_bound hYd hy1' hy0' hR
    have hdm2 := Nat.div_add_mod ((un * 4294967296 + lo * 2 ^ s % 18446744073709551616 / 4294967296) % (y * 2 ^ s) * 4294967296 + lo * 2 ^ s % 18446744073709551616 % 4294967296) (y * 2 ^ s)
    have hR2 := Nat.mod_lt ((un * 4294967296 + lo * 2 ^ s % 18446744073709551616 / 4294967296) % (y * 2 ^ s) * 4294967296 + lo * 2 ^ s % 18446744073709551616 % 4294967296) hY0
    have hyn0 : y * 2 ^ s / 4294967296 ≠ 0 := by omega
    have d1 := Nat.div_add_mod un (y * 2 ^ s / 4294967296)
    have d2 := Nat.div_add_mod ((un * 4294967296 + lo * 2 ^ s % 18446744073709551616 / 4294967296) % (y * 2 ^ s)) (y * 2 ^ s / 4294967296)
    have l1 := Nat.mod_lt un (show y * 2 ^ s / 4294967296 > 0 by omega)
    have l2 := Nat.mod_lt ((un * 4294967296 + lo * 2 ^ s % 18446744073709551616 / 4294967296) % (y * 2 ^ s)) (show y * 2 ^ s / 4294967296 > 0 by omega)
    simp +contextual only [go_sem, ↓reduceIte, Nat.reduceEqDiff, Nat.reduceAdd, Nat.reduceLeDiff, Nat.reduceLT, reduceCtorEq, c27, k27, h44, hd, hy1, inU, and_self, z1, z2, z3, ← hs, m1, m2, m3, m4, m5, m6, m7, w_cast, andY, andX, hyn0, ne_eq, not_false_eq_true]
    generalize hY : y * 2 ^ s = Y at *
    generalize hX' : lo * 2 ^ s % 18446744073709551616 = X at *
    generalize Y / 4294967296 = A1 at *
    generalize Y % 4294967296 = A0 at *
    generalize X / 4294967296 = u1 at *
    generalize X % 4294967296 = u0 at *
    obtain ⟨Q1, hQ1⟩ : ∃ Q, Q = (un * 4294967296 + u1) / Y := ⟨_, rfl⟩
    obtain ⟨R1, hR1⟩ : ∃ R, R = (un * 4294967296 + u1) % Y := ⟨_, rfl⟩
    rw [← hQ1] at tp ini hdm hsh
    rw [← hR1] at hR tp2 ini2 bnd2 hdm hdm2 hR2 d2 l2 hsh
    obtain ⟨Q0, hQ0⟩ : ∃ Q, Q = (R1 * 4294967296 + u0) / Y := ⟨_, rfl⟩
    obtain ⟨R0, hR0⟩ : ∃ R, R = (R1 * 4294967296 + u0) % Y := ⟨_, rfl⟩
    rw [← hQ0] at tp2 ini2 hdm2 hsh
    rw [← hR0] at hdm2 hR2 hsh
    have unb : un < 18446744073709551616 := by omega
    have i1 : un / A1 % 18446744073709551616 = un / A1 := Nat.mod_eq_of_lt (by omega)
    have i2 : R1 / A1 % 18446744073709551616 = R1 / A1 := Nat.mod_eq_of_lt (by omega)
    have i3 : un / A1 * A1 ≤ un := Nat.div_mul_le_self _ _
    have i4 : R1 / A1 * A1 ≤ R1 := Nat.div_mul_le_self _ _
    have i5 : A1 * (un / A1) = un / A1 * A1 := Nat.mul_comm _ _
    have i6 : A1 * (R1 / A1) = R1 / A1 * A1 := Nat.mul_comm _ _
    have r21 : ((un * 4294967296 % 18446744073709551616 + u1) % 18446744073709551616 + (18446744073709551616 - Q1 * Y % 18446744073709551616 % 18446744073709551616)) % 18446744073709551616 = R1 := by
      rw [Nat.mul_comm Y Q1] at hdm
      generalize Q1 * Y = z at *
      omega
    have r20 : ((R1 * 4294967296 % 18446744073709551616 + u0) % 18446744073709551616 + (18446744073709551616 - Q0 * Y % 18446744073709551616 % 18446744073709551616)) % 18446744073709551616 = R0 := by
      rw [Nat.mul_comm Y Q0] at hdm2
      clear r21 hsh hdm hQ1 hR1 hQ0 hR0 d1 d2
      generalize Q0 * Y = z at *
      omega
    have qf : (Q1 * 4294967296 % 18446744073709551616 + Q0) % 18446744073709551616 = N / y := by omega
    have rf : R0 / 2 ^ s = N % y := hsh.2
    have j0 : A1 < 4294967296 := by omega
    have j1 : un - un / A1 * A1 < 4294967296 := by rw [i5] at d1; omega
    have j2 : R1 - R1 / A1 * A1 < 4294967296 := by rw [i6] at d2; omega
    have j3 : R1 < 18446744073709551616 := by omega
    clear hsh hdm hdm2 hR2 d1 d2 l1 l2 i5 i6 dt1 dt2 hXd andY andX hX hun hN hq m2 m3 m4 m5 m6 m7 n1 n2 n4 n5 n6 hs z3 h0 hy0 z2 z1 hy1 hy hlt hd hl hh hX'
    refine TriI.loopA hg k27 (fun q : Nat => ⟨slotsL [(2, .sc (.int .u64 (Y : Nat))), (8, .sc (.int .u64 (s : Nat))), (9, .sc (.int .u64 (A1 : Nat))), (10, .sc (.int .u64 (A0 : Nat))), (11, .sc (.int .u64 (un : Nat))), (13, .sc (.int .u64 (u1 : Nat))), (14, .sc (.int .u64 (u0 : Nat))), (15, .sc (.int .u64 (q : Nat))), (16, .sc (.int .u64 ((un - q * A1 : Nat) : Int)))], objsL [], 0⟩) (fun q => Q1 ≤ q ∧ q ≤ un / A1 ∧ q * A1 ≤ un ∧ un - q * A1 < 4294967296) (fun q => q) (un / A1) (.back rfl ?_) ?_ ?_
    · have f1 : (un + (18446744073709551616 - un / A1 * A1 % 18446744073709551616 % 18446744073709551616)) % 18446744073709551616 = un - un / A1 * A1 := by omega
      simp +contextual only [go_sem, ↓reduceIte, Nat.reduceEqDiff, Nat.reduceAdd, Nat.reduceLeDiff, Nat.reduceLT, reduceCtorEq, i1, i2, w_mul, w_sub, f1]
    · exact ⟨ini, Nat.le_refl _, i3, j1⟩
    · rintro q ⟨g1, g2, g3, g4⟩
      obtain ⟨r, hr⟩ : ∃ r, r = un - q * A1 := ⟨_, rfl⟩
      have hqr : q * A1 + r = un := by omega
      rw [← hr] at g4 ⊢
      have hqb : q ≤ 4294967297 := Nat.le_trans g2 bnd
      have pr := est_prod hy0' hqb
      have p1 : q * A0 % 18446744073709551616 = q * A0 := Nat.mod_eq_of_lt pr
      have p2 : (4294967296 * r % 18446744073709551616 + u1) % 18446744073709551616 = 4294967296 * r + u1 := by omega
      have hrest : (q - 1) * A1 + (r + A1) = un ∨ q = 0 := by
        rcases Nat.eq_zero_or_pos q with h | h
        · exact .inr h
        · left
          obtain ⟨q', rfl⟩ : ∃ q', q = q' + 1 := ⟨q - 1, by omega⟩
          rw [Nat.add_sub_cancel, ← hqr, Nat.add_mul]; omega
      by_cases hT : 4294967296 ≤ q ∨ 4294967296 * r + u1 < q * A0
      case neg =>
        have t1 : decide ((q : Int) ≥ 4294967296) = false := by simp; omega
        have t2 : decide (((q * A0 : Nat) : Int) > ((4294967296 * r + u1 : Nat) : Int)) = false := by simp only [decide_eq_false_iff_not]; omega
        have hq := est_done hYd hY0 hqr (by rw [← hQ1]; exact g1) (by omega)
        rw [← hQ1] at hq
        replace hq := hq.symm
        subst hq
        simp +contextual only [go_sem, ↓reduceIte, Nat.reduceEqDiff, Nat.reduceAdd, Nat.reduceLeDiff, Nat.reduceLT, reduceCtorEq, k27, w_mul, w_b32, w_add, p1, p2, t1, t2, w_32b, w_sub, r21, hyn0, ne_eq, not_false_eq_true, i2]
        refine TriI.loopA hg k27 (fun v : Nat => ⟨slotsL [(2, .sc (.int .u64 (Y : Nat))), (8, .sc (.int .u64 (s : Nat))), (9, .sc (.int .u64 (A1 : Nat))), (10, .sc (.int .u64 (A0 : Nat))), (14, .sc (.int .u64 (u0 : Nat))), (15, .sc (.int .u64 (Q1 : Nat))), (16, .sc (.int .u64 ((R1 - v * A1 : Nat) : Int))), (17, .sc (.int .u64 (R1 : Nat))), (18, .sc (.int .u64 (v : Nat)))], objsL [], 0⟩) (fun v => Q0 ≤ v ∧ v ≤ R1 / A1 ∧ v * A1 ≤ R1 ∧ R1 - v * A1 < 4294967296) (fun v => v) (R1 / A1) (.back rfl ?_) ?_ ?_
        · have f2 : (R1 + (18446744073709551616 - R1 / A1 * A1 % 18446744073709551616 % 18446744073709551616)) % 18446744073709551616 = R1 - R1 / A1 * A1 := by omega
          simp +contextual only [go_sem, ↓reduceIte, Nat.reduceEqDiff, Nat.reduceAdd, Nat.reduceLeDiff, Nat.reduceLT, reduceCtorEq, f2]
        · exact ⟨ini2, Nat.le_refl _, i4, j2⟩
        · rintro v ⟨g1', g2', g3', g4'⟩
          obtain ⟨z, hz⟩ : ∃ z, z = R1 - v * A1 := ⟨_, rfl⟩
          have hvz : v * A1 + z = R1 := by omega
          rw [← hz] at g4' ⊢
          have hvb : v ≤ 4294967297 := Nat.le_trans g2' bnd2
          have pr' := est_prod hy0' hvb
          have p1' : v * A0 % 18446744073709551616 = v * A0 := Nat.mod_eq_of_lt pr'
          have p2' : (4294967296 * z % 18446744073709551616 + u0) % 18446744073709551616 = 4294967296 * z + u0 := by omega
          have hrest' : (v - 1) * A1 + (z + A1) = R1 ∨ v = 0 := by
            rcases Nat.eq_zero_or_pos v with h | h
            · exact .inr h
            · left
              obtain ⟨v', rfl⟩ : ∃ v', v = v' + 1 := ⟨v - 1, by omega⟩
              rw [Nat.add_sub_cancel, ← hvz, Nat.add_mul]; omega
          by_cases hT' : 4294967296 ≤ v ∨ 4294967296 * z + u0 < v * A0
          case neg =>
            have t1' : decide ((v : Int) ≥ 4294967296) = false := by simp; omega
            have t2' : decide (((v * A0 : Nat) : Int) > ((4294967296 * z + u0 : Nat) : Int)) = false := by simp only [decide_eq_false_iff_not]; omega
            have hv := est_done (u1 := u0) hYd hY0 hvz (by rw [← hQ0]; exact g1') (by omega)
            rw [← hQ0] at hv
            replace hv := hv.symm
            subst hv
            simp +contextual only [go_sem, ↓reduceIte, Nat.reduceEqDiff, Nat.reduceAdd, Nat.reduceLeDiff, Nat.reduceLT, reduceCtorEq, k27, w_mul, w_b32, w_add, p1', p2', t1', t2', w_32b, w_sub, r20, m1, qf, rf]
          case pos =>
            have hgt' : Q0 < v := by
              by_cases hb' : 4294967296 ≤ v
              · omega
              · have := est_more (u1 := u0) hYd hY0 hvz (by omega); rw [← hQ0] at this; exact this
            have hrest' := hrest'.resolve_right (by omega)
            have dq' : (v + 18446744073709551615) % 18446744073709551616 = v - 1 := by omega
            have dr' : (z + A1) % 18446744073709551616 = z + A1 := by omega
            rcases Nat.lt_or_ge (z + A1) 4294967296 with hbr' | hbr'
            · have t3' : decide (((z + A1 : Nat) : Int) ≥ 4294967296) = false := by simp only [decide_eq_false_iff_not]; omega
              have hun' : R1 - (v - 1) * A1 = z + A1 := by omega
              have hq1A' : (v - 1) * A1 ≤ R1 := by omega
              by_cases hb' : 4294967296 ≤ v
              · have t1' : decide ((v : Int) ≥ 4294967296) = true := by simp; omega
                simp +contextual only [go_sem, ↓reduceIte, Nat.reduceEqDiff, Nat.reduceAdd, Nat.reduceLeDiff, Nat.reduceLT, reduceCtorEq, k27, w_mul, w_b32, w_add, w_dec, p1', p2', t1', dq', dr', t3']
                refine ⟨v - 1, by dsimp only; omega, ⟨by omega, by omega, hq1A', by omega⟩, .back rfl ?_⟩
                simp +contextual only [go_sem, ↓reduceIte, Nat.reduceEqDiff, Nat.reduceAdd, Nat.reduceLeDiff, Nat.reduceLT, reduceCtorEq, hun']
              · have t1' : decide ((v : Int) ≥ 4294967296) = false := by simp; omega
                have t2' : decide (((v * A0 : Nat) : Int) > ((4294967296 * z + u0 : Nat) : Int)) = true := by simp only [decide_eq_true_eq]; omega
                simp +contextual only [go_sem, ↓reduceIte, Nat.reduceEqDiff, Nat.reduceAdd, Nat.reduceLeDiff, Nat.reduceLT, reduceCtorEq, k27, w_mul, w_b32, w_add, w_dec, p1', p2', t1', t2', dq', dr', t3']
                refine ⟨v - 1, by dsimp only; omega, ⟨by omega, by omega, hq1A', by omega⟩, .back rfl ?_⟩
                simp +contextual only [go_sem, ↓reduceIte, Nat.reduceEqDiff, Nat.reduceAdd, Nat.reduceLeDiff, Nat.reduceLT, reduceCtorEq, hun']
            · have t3' : decide (((z + A1 : Nat) : Int) ≥ 4294967296) = true := by simp only [decide_eq_true_eq]; omega
              have hv := est_done (u1 := u0) hYd hY0 hrest' (by rw [← hQ0]; omega) (est_rest hy0' (by omega) hbr')
              rw [← hQ0] at hv
              by_cases hb' : 4294967296 ≤ v
              · have t1' : decide ((v : Int) ≥ 4294967296) = true := by simp; omega
                simp +contextual only [go_sem, ↓reduceIte, Nat.reduceEqDiff, Nat.reduceAdd, Nat.reduceLeDiff, Nat.reduceLT, reduceCtorEq, k27, w_mul, w_b32, w_add, w_dec, p1', p2', t1', dq', dr', t3', hv, w_32b, w_sub, r20, m1, qf, rf]
              · have t1' : decide ((v : Int) ≥ 4294967296) = false := by simp; omega
                have t2' : decide (((v * A0 : Nat) : Int) > ((4294967296 * z + u0 : Nat) : Int)) = true := by simp only [decide_eq_true_eq]; omega
                simp +contextual only [go_sem, ↓reduceIte, Nat.reduceEqDiff, Nat.reduceAdd, Nat.reduceLeDiff, Nat.reduceLT, reduceCtorEq, k27, w_mul, w_b32, w_add, w_dec, p1', p2', t1', t2', dq', dr', t3', hv, w_32b, w_sub, r20, m1, qf, rf]
      case pos =>
        have hgt : Q1 < q := by
          by_cases hb : 4294967296 ≤ q
          · omega
          · have := est_more (u1 := u1) hYd hY0 hqr (by omega); rw [← hQ1] at this; exact this
        have hrest := hrest.resolve_right (by omega)
        have dq : (q + 18446744073709551615) % 18446744073709551616 = q - 1 := by omega
        have dr : (r + A1) % 18446744073709551616 = r + A1 := by omega
        rcases Nat.lt_or_ge (r + A1) 4294967296 with hbr | hbr
        · have t3 : decide (((r + A1 : Nat) : Int) ≥ 4294967296) = false := by simp only [decide_eq_false_iff_not]; omega
          have hun : un - (q - 1) * A1 = r + A1 := by omega
          have hq1A : (q - 1) * A1 ≤ un := by omega
          by_cases hb : 4294967296 ≤ q
          · have t1 : decide ((q : Int) ≥ 4294967296) = true := by simp; omega
            simp +contextual only [go_sem, ↓reduceIte, Nat.reduceEqDiff, Nat.reduceAdd, Nat.reduceLeDiff, Nat.reduceLT, reduceCtorEq, k27, w_mul, w_b32, w_add, w_dec, p1, p2, t1, dq, dr, t3]
            refine ⟨q - 1, by dsimp only; omega, ⟨by omega, by omega, hq1A, by omega⟩, .back rfl ?_⟩
            simp +contextual only [go_sem, ↓reduceIte, Nat.reduceEqDiff, Nat.reduceAdd, Nat.reduceLeDiff, Nat.reduceLT, reduceCtorEq, hun]
          · have t1 : decide ((q : Int) ≥ 4294967296) = false := by simp; omega
            have t2 : decide (((q * A0 : Nat) : Int) > ((4294967296 * r + u1 : Nat) : Int)) = true := by simp only [decide_eq_true_eq]; omega
            simp +contextual only [go_sem, ↓reduceIte, Nat.reduceEqDiff, Nat.reduceAdd, Nat.reduceLeDiff, Nat.reduceLT, reduceCtorEq, k27, w_mul, w_b32, w_add, w_dec, p1, p2, t1, t2, dq, dr, t3]
            refine ⟨q - 1, by dsimp only; omega, ⟨by omega, by omega, hq1A, by omega⟩, .back rfl ?_⟩
            simp +contextual only [go_sem, ↓reduceIte, Nat.reduceEqDiff, Nat.reduceAdd, Nat.reduceLeDiff, Nat.reduceLT, reduceCtorEq, hun]
        · have t3 : decide (((r + A1 : Nat) : Int) ≥ 4294967296) = true := by simp only [decide_eq_true_eq]; omega
          have hq := est_done (u1 := u1) hYd hY0 hrest (by rw [← hQ1]; omega) (est_rest hy0' (by omega) hbr)
          rw [← hQ1] at hq
          by_cases hb : 4294967296 ≤ q
          · have t1 : decide ((q : Int) ≥ 4294967296) = true := by simp; omega
            simp +contextual only [go_sem, ↓reduceIte, Nat.reduceEqDiff, Nat.reduceAdd, Nat.reduceLeDiff, Nat.reduceLT, reduceCtorEq, k27, w_mul, w_b32, w_add, w_dec, p1, p2, t1, dq, dr, t3, hq, w_32b, w_sub, r21, hyn0, ne_eq, not_false_eq_true, i2]
            refine TriI.loopA hg k27 (fun v : Nat => ⟨slotsL [(2, .sc (.int .u64 (Y : Nat))), (8, .sc (.int .u64 (s : Nat))), (9, .sc (.int .u64 (A1 : Nat))), (10, .sc (.int .u64 (A0 : Nat))), (14, .sc (.int .u64 (u0 : Nat))), (15, .sc (.int .u64 (Q1 : Nat))), (16, .sc (.int .u64 ((R1 - v * A1 : Nat) : Int))), (17, .sc (.int .u64 (R1 : Nat))), (18, .sc (.int .u64 (v : Nat)))], objsL [], 0⟩) (fun v => Q0 ≤ v ∧ v ≤ R1 / A1 ∧ v * A1 ≤ R1 ∧ R1 - v * A1 < 4294967296) (fun v => v) (R1 / A1) (.back rfl ?_) ?_ ?_
            · have f2 : (R1 + (18446744073709551616 - R1 / A1 * A1 % 18446744073709551616 % 18446744073709551616)) % 18446744073709551616 = R1 - R1 / A1 * A1 := by omega
              simp +contextual only [go_sem, ↓reduceIte, Nat.reduceEqDiff, Nat.reduceAdd, Nat.reduceLeDiff, Nat.reduceLT, reduceCtorEq, f2]
            · exact ⟨ini2, Nat.le_refl _, i4, j2⟩
            · rintro v ⟨g1', g2', g3', g4'⟩
              obtain ⟨z, hz⟩ : ∃ z, z = R1 - v * A1 := ⟨_, rfl⟩
              have hvz : v * A1 + z = R1 := by omega
              rw [← hz] at g4' ⊢
              have hvb : v ≤ 4294967297 := Nat.le_trans g2' bnd2
              have pr' := est_prod hy0' hvb
              have p1' : v * A0 % 18446744073709551616 = v * A0 := Nat.mod_eq_of_lt pr'
              have p2' : (4294967296 * z % 18446744073709551616 + u0) % 18446744073709551616 = 4294967296 * z + u0 := by omega
              have hrest' : (v - 1) * A1 + (z + A1) = R1 ∨ v = 0 := by
                rcases Nat.eq_zero_or_pos v with h | h
                · exact .inr h
                · left
                  obtain ⟨v', rfl⟩ : ∃ v', v = v' + 1 := ⟨v - 1, by omega⟩
                  rw [Nat.add_sub_cancel, ← hvz, Nat.add_mul]; omega
              by_cases hT' : 4294967296 ≤ v ∨ 4294967296 * z + u0 < v * A0
              case neg =>
                have t1' : decide ((v : Int) ≥ 4294967296) = false := by simp; omega
                have t2' : decide (((v * A0 : Nat) : Int) > ((4294967296 * z + u0 : Nat) : Int)) = false := by simp only [decide_eq_false_iff_not]; omega
                have hv := est_done (u1 := u0) hYd hY0 hvz (by rw [← hQ0]; exact g1') (by omega)
                rw [← hQ0] at hv
                replace hv := hv.symm
                subst hv
                simp +contextual only [go_sem, ↓reduceIte, Nat.reduceEqDiff, Nat.reduceAdd, Nat.reduceLeDiff, Nat.reduceLT, reduceCtorEq, k27, w_mul, w_b32, w_add, p1', p2', t1', t2', w_32b, w_sub, r20, m1, qf, rf]
              case pos =>
                have hgt' : Q0 < v := by
                  by_cases hb' : 4294967296 ≤ v
                  · omega
                  · have := est_more (u1 := u0) hYd hY0 hvz (by omega); rw [← hQ0] at this; exact this
                have hrest' := hrest'.resolve_right (by omega)
                have dq' : (v + 18446744073709551615) % 18446744073709551616 = v - 1 := by omega
                have dr' : (z + A1) % 18446744073709551616 = z + A1 := by omega
                rcases Nat.lt_or_ge (z + A1) 4294967296 with hbr' | hbr'
                · have t3' : decide (((z + A1 : Nat) : Int) ≥ 4294967296) = false := by simp only [decide_eq_false_iff_not]; omega
                  have hun' : R1 - (v - 1) * A1 = z + A1 := by omega
                  have hq1A' : (v - 1) * A1 ≤ R1 := by omega
                  by_cases hb' : 4294967296 ≤ v
                  · have t1' : decide ((v : Int) ≥ 4294967296) = true := by simp; omega
                    simp +contextual only [go_sem, ↓reduceIte, Nat.reduceEqDiff, Nat.reduceAdd, Nat.reduceLeDiff, Nat.reduceLT, reduceCtorEq, k27, w_mul, w_b32, w_add, w_dec, p1', p2', t1', dq', dr', t3']
                    refine ⟨v - 1, by dsimp only; omega, ⟨by omega, by omega, hq1A', by omega⟩, .back rfl ?_⟩
                    simp +contextual only [go_sem, ↓reduceIte, Nat.reduceEqDiff, Nat.reduceAdd, Nat.reduceLeDiff, Nat.reduceLT, reduceCtorEq, hun']
                  · have t1' : decide ((v : Int) ≥ 4294967296) = false := by simp; omega
                    have t2' : decide (((v * A0 : Nat) : Int) > ((4294967296 * z + u0 : Nat) : Int)) = true := by simp only [decide_eq_true_eq]; omega
                    simp +contextual only [go_sem, ↓reduceIte, Nat.reduceEqDiff, Nat.reduceAdd, Nat.reduceLeDiff, Nat.reduceLT, reduceCtorEq, k27, w_mul, w_b32, w_add, w_dec, p1', p2', t1', t2', dq', dr', t3']
                    refine ⟨v - 1, by dsimp only; omega, ⟨by omega, by omega, hq1A', by omega⟩, .back rfl ?_⟩
                    simp +contextual only [go_sem, ↓reduceIte, Nat.reduceEqDiff, Nat.reduceAdd, Nat.reduceLeDiff, Nat.reduceLT, reduceCtorEq, hun']
                · have t3' : decide (((z + A1 : Nat) : Int) ≥ 4294967296) = true := by simp only [decide_eq_true_eq]; omega
                  have hv := est_done (u1 := u0) hYd hY0 hrest' (by rw [← hQ0]; omega) (est_rest hy0' (by omega) hbr')
                  rw [← hQ0] at hv
                  by_cases hb' : 4294967296 ≤ v
                  · have t1' : decide ((v : Int) ≥ 4294967296) = true := by simp; omega
                    simp +contextual only [go_sem, ↓reduceIte, Nat.reduceEqDiff, Nat.reduceAdd, Nat.reduceLeDiff, Nat.reduceLT, reduceCtorEq, k27, w_mul, w_b32, w_add, w_dec, p1', p2', t1', dq', dr', t3', hv, w_32b, w_sub, r20, m1, qf, rf]
                  · have t1' : decide ((v : Int) ≥ 4294967296) = false := by simp; omega
                    have t2' : decide (((v * A0 : Nat) : Int) > ((4294967296 * z + u0 : Nat) : Int)) = true := by simp only [decide_eq_true_eq]; omega
                    simp +contextual only [go_sem, ↓reduceIte, Nat.reduceEqDiff, Nat.reduceAdd, Nat.reduceLeDiff, Nat.reduceLT, reduceCtorEq, k27, w_mul, w_b32, w_add, w_dec, p1', p2', t1', t2', dq', dr', t3', hv, w_32b, w_sub, r20, m1, qf, rf]
          · have t1 : decide ((q : Int) ≥ 4294967296) = false := by simp; omega
            have t2 : decide (((q * A0 : Nat) : Int) > ((4294967296 * r + u1 : Nat) : Int)) = true := by simp only [decide_eq_true_eq]; omega
            simp +contextual only [go_sem, ↓reduceIte, Nat.reduceEqDiff, Nat.reduceAdd, Nat.reduceLeDiff, Nat.reduceLT, reduceCtorEq, k27, w_mul, w_b32, w_add, w_dec, p1, p2, t1, t2, dq, dr, t3, hq, w_32b, w_sub, r21, hyn0, ne_eq, not_false_eq_true, i2]
            refine TriI.loopA hg k27 (fun v : Nat => ⟨slotsL [(2, .sc (.int .u64 (Y : Nat))), (8, .sc (.int .u64 (s : Nat))), (9, .sc (.int .u64 (A1 : Nat))), (10, .sc (.int .u64 (A0 : Nat))), (14, .sc (.int .u64 (u0 : Nat))), (15, .sc (.int .u64 (Q1 : Nat))), (16, .sc (.int .u64 ((R1 - v * A1 : Nat) : Int))), (17, .sc (.int .u64 (R1 : Nat))), (18, .sc (.int .u64 (v : Nat)))], objsL [], 0⟩) (fun v => Q0 ≤ v ∧ v ≤ R1 / A1 ∧ v * A1 ≤ R1 ∧ R1 - v * A1 < 4294967296) (fun v => v) (R1 / A1) (.back rfl ?_) ?_ ?_
            · have f2 : (R1 + (18446744073709551616 - R1 / A1 * A1 % 18446744073709551616 % 18446744073709551616)) % 18446744073709551616 = R1 - R1 / A1 * A1 := by omega
              simp +contextual only [go_sem, ↓reduceIte, Nat.reduceEqDiff, Nat.reduceAdd, Nat.reduceLeDiff, Nat.reduceLT, reduceCtorEq, f2]
            · exact ⟨ini2, Nat.le_refl _, i4, j2⟩
            · rintro v ⟨g1', g2', g3', g4'⟩
              obtain ⟨z, hz⟩ : ∃ z, z = R1 - v * A1 := ⟨_, rfl⟩
              have hvz : v * A1 + z = R1 := by omega
              rw [← hz] at g4' ⊢
              have hvb : v ≤ 4294967297 := Nat.le_trans g2' bnd2
              have pr' := est_prod hy0' hvb
              have p1' : v * A0 % 18446744073709551616 = v * A0 := Nat.mod_eq_of_lt pr'
              have p2' : (4294967296 * z % 18446744073709551616 + u0) % 18446744073709551616 = 4294967296 * z + u0 := by omega
              have hrest' : (v - 1) * A1 + (z + A1) = R1 ∨ v = 0 := by
                rcases Nat.eq_zero_or_pos v with h | h
                · exact .inr h
                · left
                  obtain ⟨v', rfl⟩ : ∃ v', v = v' + 1 := ⟨v - 1, by omega⟩
                  rw [Nat.add_sub_cancel, ← hvz, Nat.add_mul]; omega
              by_cases hT' : 4294967296 ≤ v ∨ 4294967296 * z + u0 < v * A0
              case neg =>
                have t1' : decide ((v : Int) ≥ 4294967296) = false := by simp; omega
                have t2' : decide (((v * A0 : Nat) : Int) > ((4294967296 * z + u0 : Nat) : Int)) = false := by simp only [decide_eq_false_iff_not]; omega
                have hv := est_done (u1 := u0) hYd hY0 hvz (by rw [← hQ0]; exact g1') (by omega)
                rw [← hQ0] at hv
                replace hv := hv.symm
                subst hv
                simp +contextual only [go_sem, ↓reduceIte, Nat.reduceEqDiff, Nat.reduceAdd, Nat.reduceLeDiff, Nat.reduceLT, reduceCtorEq, k27, w_mul, w_b32, w_add, p1', p2', t1', t2', w_32b, w_sub, r20, m1, qf, rf]
              case pos =>
                have hgt' : Q0 < v := by
                  by_cases hb' : 4294967296 ≤ v
                  · omega
                  · have := est_more (u1 := u0) hYd hY0 hvz (by omega); rw [← hQ0] at this; exact this
                have hrest' := hrest'.resolve_right (by omega)
                have dq' : (v + 18446744073709551615) % 18446744073709551616 = v - 1 := by omega
                have dr' : (z + A1) % 18446744073709551616 = z + A1 := by omega
                rcases Nat.lt_or_ge (z + A1) 4294967296 with hbr' | hbr'
                · have t3' : decide (((z + A1 : Nat) : Int) ≥ 4294967296) = false := by simp only [decide_eq_false_iff_not]; omega
                  have hun' : R1 - (v - 1) * A1 = z + A1 := by omega
                  have hq1A' : (v - 1) * A1 ≤ R1 := by omega
                  by_cases hb' : 4294967296 ≤ v
                  · have t1' : decide ((v : Int) ≥ 4294967296) = true := by simp; omega
                    simp +contextual only [go_sem, ↓reduceIte, Nat.reduceEqDiff, Nat.reduceAdd, Nat.reduceLeDiff, Nat.reduceLT, reduceCtorEq, k27, w_mul, w_b32, w_add, w_dec, p1', p2', t1', dq', dr', t3']
                    refine ⟨v - 1, by dsimp only; omega, ⟨by omega, by omega, hq1A', by omega⟩, .back rfl ?_⟩
                    simp +contextual only [go_sem, ↓reduceIte, Nat.reduceEqDiff, Nat.reduceAdd, Nat.reduceLeDiff, Nat.reduceLT, reduceCtorEq, hun']
                  · have t1' : decide ((v : Int) ≥ 4294967296) = false := by simp; omega
                    have t2' : decide (((v * A0 : Nat) : Int) > ((4294967296 * z + u0 : Nat) : Int)) = true := by simp only [decide_eq_true_eq]; omega
                    simp +contextual only [go_sem, ↓reduceIte, Nat.reduceEqDiff, Nat.reduceAdd, Nat.reduceLeDiff, Nat.reduceLT, reduceCtorEq, k27, w_mul, w_b32, w_add, w_dec, p1', p2', t1', t2', dq', dr', t3']
                    refine ⟨v - 1, by dsimp only; omega, ⟨by omega, by omega, hq1A', by omega⟩, .back rfl ?_⟩
                    simp +contextual only [go_sem, ↓reduceIte, Nat.reduceEqDiff, Nat.reduceAdd, Nat.reduceLeDiff, Nat.reduceLT, reduceCtorEq, hun']
                · have t3' : decide (((z + A1 : Nat) : Int) ≥ 4294967296) = true := by simp only [decide_eq_true_eq]; omega
                  have hv := est_done (u1 := u0) hYd hY0 hrest' (by rw [← hQ0]; omega) (est_rest hy0' (by omega) hbr')
                  rw [← hQ0] at hv
                  by_cases hb' : 4294967296 ≤ v
                  · have t1' : decide ((v : Int) ≥ 4294967296) = true := by simp; omega
                    simp +contextual only [go_sem, ↓reduceIte, Nat.reduceEqDiff, Nat.reduceAdd, Nat.reduceLeDiff, Nat.reduceLT, reduceCtorEq, k27, w_mul, w_b32, w_add, w_dec, p1', p2', t1', dq', dr', t3', hv, w_32b, w_sub, r20, m1, qf, rf]
                  · have t1' : decide ((v : Int) ≥ 4294967296) = false := by simp; omega
                    have t2' : decide (((v * A0 : Nat) : Int) > ((4294967296 * z + u0 : Nat) : Int)) = true := by simp only [decide_eq_true_eq]; omega
                    simp +contextual only [go_sem, ↓reduceIte, Nat.reduceEqDiff, Nat.reduceAdd, Nat.reduceLeDiff, Nat.reduceLT, reduceCtorEq, k27, w_mul, w_b32, w_add, w_dec, p1', p2', t1', t2', dq', dr', t3', hv, w_32b, w_sub, r20, m1, qf, rf]
end Go.Proofs.YtfmeplnoikfndaaDoor
