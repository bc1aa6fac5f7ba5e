/- Amounts: absolute values, signs, products. -/
import Derived.Test.YtfmeplnoikfndaaDoorCodes
import Derived.Lib.Mul64
import Derived.Laws.Bits64
namespace Go.Proofs.YtfmeplnoikfndaaDoor
set_option linter.all false
open Go.Idl
set_option linter.all false
set_option maxHeartbeats 4000000
set_option maxRecDepth 100000
attribute [local go_sem] Tryd.underlying3 Tryd.underlying45 Tryd.underlying74 Tryd.underlying5 Tryd.underlying9 Tryd.underlying4 Tryd.underlying22
structure U64 where
  n : Nat
instance : Cod U64 where
  enc := fun u => .sc (.int .u64 (u.n : Int))
  dec := fun v => match v with | .sc (.int .u64 n) => if 0 ≤ n then some ⟨n.toNat⟩ else none | _ => none
  sz := 1
  len := fun _ => rfl
  dec_enc := fun u => by
    show (if 0 ≤ (u.n : Int) then some (⟨((u.n : Int)).toNat⟩ : U64) else none) = some u
    rw [if_pos (Int.natCast_nonneg _), Int.toNat_natCast]
  le := fun v a h => by
    split at h
    · split at h
      · rename_i hh; cases h
        rw [show ((⟨Int.toNat _⟩ : U64).n : Int) = _ from Int.toNat_of_nonneg hh]
        exact .one rfl rfl (.refl _)
      · cases h
    · cases h
@[go_sem ↓] theorem enc_u (u : U64) : Cod.enc u = .sc (.int .u64 (u.n : Int)) := rfl
@[go_sem ↓] theorem dec_u (n : Nat) : (Cod.dec (.sc (.int .u64 (n : Int))) : Option U64) = some ⟨n⟩ := by
  show (if 0 ≤ (n : Int) then some (⟨((n : Int)).toNat⟩ : U64) else none) = some ⟨n⟩
  rw [if_pos (Int.natCast_nonneg _), Int.toNat_natCast]
@[go_sem ↓] theorem sz_u : Cod.sz U64 = 1 := rfl
def inI (n : Int) : Prop := -9223372036854775808 ≤ n ∧ n ≤ 9223372036854775807
instance (n : Int) : Decidable (inI n) := by unfold inI; exact inferInstance
def inU (u : U64) : Prop := u.n < 18446744073709551616
instance (u : U64) : Decidable (inU u) := by unfold inU; exact inferInstance
theorem mag_neg {n : Int} (h : n < 0) (h0 : inI n) : IntKind.u64.wrap (0 - IntKind.u64.wrap n) = ((n.natAbs : Nat) : Int) := by
  unfold inI at h0; rw [IntKind.wrap_u64, IntKind.wrap_u64]; omega
theorem mag_pos {n : Int} (h : ¬ n < 0) (h0 : inI n) : IntKind.u64.wrap n = ((n.natAbs : Nat) : Int) := by
  unfold inI at h0; rw [IntKind.wrap_u64]; omega
section
variable {P : Program} (ρ : Operand → V) (o : Oper) (isB : Bool) (a b : Nat)
@[go_sem ↓] theorem u_shr32 : evBin P ρ o .shr isB (.sc (.int .u64 (a : Int))) (.sc (.int .u64 32)) = some (.sc (.int .u64 ((a / 4294967296 : Nat) : Int)), []) := by
  rw [bin_shr ρ o isB .u64 _ _ .u64 (by decide)]
  have : (min (Int.toNat 32) IntKind.u64.bits) = 32 := by decide
  rw [this, Int.fdiv_eq_ediv_of_nonneg _ (by decide)]; rfl
@[go_sem ↓] theorem u_shr63 : evBin P ρ o .shr isB (.sc (.int .u64 (a : Int))) (.sc (.int .u64 63)) = some (.sc (.int .u64 ((a / 9223372036854775808 : Nat) : Int)), []) := by
  rw [bin_shr ρ o isB .u64 _ _ .u64 (by decide)]
  have : (min (Int.toNat 63) IntKind.u64.bits) = 63 := by decide
  rw [this, Int.fdiv_eq_ediv_of_nonneg _ (by decide)]; rfl
@[go_sem ↓] theorem u_shl32 : evBin P ρ o .shl isB (.sc (.int .u64 (a : Int))) (.sc (.int .u64 32)) = some (.sc (.int .u64 ((a * 4294967296 % 18446744073709551616 : Nat) : Int)), []) := by
  rw [bin_shl ρ o isB .u64 _ _ .u64 (by decide)]
  have : (min (Int.toNat 32) IntKind.u64.bits) = 32 := by decide
  rw [this, IntKind.wrap_u64]
  congr 4
@[go_sem ↓] theorem u_shl1 : evBin P ρ o .shl isB (.sc (.int .u64 (a : Int))) (.sc (.int .u64 1)) = some (.sc (.int .u64 ((2 * a % 18446744073709551616 : Nat) : Int)), []) := by
  rw [bin_shl ρ o isB .u64 _ _ .u64 (by decide)]
  have : (min (Int.toNat 1) IntKind.u64.bits) = 1 := by decide
  rw [this, IntKind.wrap_u64]
  congr 4
  omega
@[go_sem ↓] theorem u_rem4294967296 : evBin P ρ o .rem isB (.sc (.int .u64 (a : Int))) (.sc (.int .u64 4294967296)) = some (.sc (.int .u64 ((a % 4294967296 : Nat) : Int)), []) := by
  rw [bin_rem ρ o isB .u64 _ _ (by decide)]
  rfl
@[go_sem ↓] theorem u_rem2 : evBin P ρ o .rem isB (.sc (.int .u64 (a : Int))) (.sc (.int .u64 2)) = some (.sc (.int .u64 ((a % 2 : Nat) : Int)), []) := by
  rw [bin_rem ρ o isB .u64 _ _ (by decide)]
  rfl
@[go_sem ↓] theorem u_rem10 : evBin P ρ o .rem isB (.sc (.int .u64 (a : Int))) (.sc (.int .u64 10)) = some (.sc (.int .u64 ((a % 10 : Nat) : Int)), []) := by
  rw [bin_rem ρ o isB .u64 _ _ (by decide)]
  rfl
@[go_sem ↓] theorem u_rem1000 : evBin P ρ o .rem isB (.sc (.int .u64 (a : Int))) (.sc (.int .u64 1000)) = some (.sc (.int .u64 ((a % 1000 : Nat) : Int)), []) := by
  rw [bin_rem ρ o isB .u64 _ _ (by decide)]
  rfl
@[go_sem ↓] theorem u_quo10 : evBin P ρ o .quo isB (.sc (.int .u64 (a : Int))) (.sc (.int .u64 10)) = some (.sc (.int .u64 ((a / 10 % 18446744073709551616 : Nat) : Int)), []) := by
  rw [bin_quo ρ o isB .u64 _ _ (by decide)]
  rw [IntKind.wrap_u64, Int.tdiv_eq_ediv_of_nonneg (Int.natCast_nonneg _)]; rfl
@[go_sem ↓] theorem u_quo1000 : evBin P ρ o .quo isB (.sc (.int .u64 (a : Int))) (.sc (.int .u64 1000)) = some (.sc (.int .u64 ((a / 1000 % 18446744073709551616 : Nat) : Int)), []) := by
  rw [bin_quo ρ o isB .u64 _ _ (by decide)]
  rw [IntKind.wrap_u64, Int.tdiv_eq_ediv_of_nonneg (Int.natCast_nonneg _)]; rfl
@[go_sem] theorem u_rem (h : b ≠ 0) : evBin P ρ o .rem isB (.sc (.int .u64 (a : Int))) (.sc (.int .u64 (b : Int))) = some (.sc (.int .u64 ((a % b : Nat) : Int)), []) := by
  rw [bin_rem ρ o isB .u64 _ _ (by omega)]; rfl
@[go_sem] theorem u_quo (h : b ≠ 0) : evBin P ρ o .quo isB (.sc (.int .u64 (a : Int))) (.sc (.int .u64 (b : Int))) = some (.sc (.int .u64 ((a / b % 18446744073709551616 : Nat) : Int)), []) := by
  rw [bin_quo ρ o isB .u64 _ _ (by omega), IntKind.wrap_u64, Int.tdiv_eq_ediv_of_nonneg (Int.natCast_nonneg _)]; rfl
end
theorem w_add (a b : Nat) : IntKind.u64.wrap ((a : Int) + (b : Int)) = (((a + b) % 18446744073709551616 : Nat) : Int) := by rw [IntKind.wrap_u64]; omega
theorem w_mul (a b : Nat) : IntKind.u64.wrap ((a : Int) * (b : Int)) = ((a * b % 18446744073709551616 : Nat) : Int) := by rw [IntKind.wrap_u64, ← Int.natCast_mul]; omega
theorem w_sub (a b : Nat) : IntKind.u64.wrap ((a : Int) - (b : Int)) = (((a + (18446744073709551616 - b % 18446744073709551616)) % 18446744073709551616 : Nat) : Int) := by rw [IntKind.wrap_u64]; omega
theorem w_inc (a : Nat) : IntKind.u64.wrap ((a : Int) + 1) = (((a + 1) % 18446744073709551616 : Nat) : Int) := by rw [IntKind.wrap_u64]; omega
theorem w_dec (a : Nat) : IntKind.u64.wrap ((a : Int) - 1) = (((a + 18446744073709551615) % 18446744073709551616 : Nat) : Int) := by rw [IntKind.wrap_u64]; omega
theorem w_rem32 (a : Nat) : Int.tmod (a : Int) 4294967296 = ((a % 4294967296 : Nat) : Int) := rfl
abbrev SSize : List V → Option V := FT fun (t : Int × Unit) => if inI t.1 then some ((⟨t.1.natAbs⟩ : U64), decide (t.1 < 0)) else none
theorem con25 {Φ : Specs} (hg : Idl.Good Tryd.prog Φ) : Contract Tryd.prog 25 SSize := by
  refine conT hg k25 ic25 (by decide) fun C t r h => ?_
  obtain ⟨n, u⟩ := t
  dsimp only at h
  by_cases hn : inI n
  case neg => rw [if_neg hn] at h; cases h
  rw [if_pos hn] at h
  cases h
  by_cases h0 : n < 0
  · have d0 : decide (n < 0) = true := decide_eq_true h0
    have hm := mag_neg h0 hn
    simp +contextual only [go_sem, ↓reduceIte, Nat.reduceEqDiff, Nat.reduceAdd, Nat.reduceLeDiff, Nat.reduceLT, reduceCtorEq, c25, k25, d0, hm]
  · have d0 : decide (n < 0) = false := decide_eq_false h0
    have hm := mag_pos h0 hn
    simp +contextual only [go_sem, ↓reduceIte, Nat.reduceEqDiff, Nat.reduceAdd, Nat.reduceLeDiff, Nat.reduceLT, reduceCtorEq, c25, k25, d0, hm]
abbrev SMag : List V → Option V := FT fun (t : Int × Unit) => if inI t.1 then some (⟨t.1.natAbs⟩ : U64) else none
theorem con31 {Φ : Specs} (hg : Idl.Good Tryd.prog Φ) : Contract Tryd.prog 31 SMag := by
  refine conT hg k31 ic31 (by decide) fun C t r h => ?_
  obtain ⟨n, u⟩ := t
  dsimp only at h
  by_cases hn : inI n
  case neg => rw [if_neg hn] at h; cases h
  rw [if_pos hn] at h
  cases h
  by_cases h0 : n < 0
  · have d0 : decide (n < 0) = true := decide_eq_true h0
    have hm := mag_neg h0 hn
    simp +contextual only [go_sem, ↓reduceIte, Nat.reduceEqDiff, Nat.reduceAdd, Nat.reduceLeDiff, Nat.reduceLT, reduceCtorEq, c31, k31, d0, hm]
  · have d0 : decide (n < 0) = false := decide_eq_false h0
    have hm := mag_pos h0 hn
    simp +contextual only [go_sem, ↓reduceIte, Nat.reduceEqDiff, Nat.reduceAdd, Nat.reduceLeDiff, Nat.reduceLT, reduceCtorEq, c31, k31, d0, hm]
abbrev SMul : List V → Option V := FT fun (t : U64 × U64 × Unit) => if inU t.1 ∧ inU t.2.1 then some ((⟨t.1.n * t.2.1.n / 18446744073709551616⟩ : U64), (⟨t.1.n * t.2.1.n % 18446744073709551616⟩ : U64)) else none
theorem con30 {Φ : Specs} (hg : Idl.Good Tryd.prog Φ) : Contract Tryd.prog 30 SMul := by
  refine conT hg k30 ic30 (by decide) fun C t r h => ?_
  obtain ⟨⟨x⟩, ⟨y⟩, u⟩ := t
  dsimp only at h
  by_cases hn : inU ⟨x⟩ ∧ inU ⟨y⟩
  case neg => rw [if_neg hn] at h; cases h
  rw [if_pos hn] at h
  cases h
  obtain ⟨hx, hy⟩ := hn
  replace hx : x < 18446744073709551616 := hx
  replace hy : y < 18446744073709551616 := hy
  obtain ⟨b1, b2, b3, b4⟩ := Lib.mul64_hi x y hx hy
  have ea := Lib.half_mul_le (a := x / 4294967296) (b := y / 4294967296) (by omega) (by omega)
  have eb := Lib.half_mul_le (a := x / 4294967296) (b := y % 4294967296) (by omega) (by omega)
  have ec := Lib.half_mul_le (a := x % 4294967296) (b := y / 4294967296) (by omega) (by omega)
  have e : x * y = (x / 4294967296) * (y / 4294967296) * (4294967296 * 4294967296) + ((x / 4294967296) * (y % 4294967296) + (x % 4294967296) * (y / 4294967296)) * 4294967296 + (x % 4294967296) * (y % 4294967296) := by
    rw [← Lib.split_mul, Nat.div_add_mod' x 4294967296, Nat.div_add_mod' y 4294967296]
  simp +contextual only [go_sem, ↓reduceIte, Nat.reduceEqDiff, Nat.reduceAdd, Nat.reduceLeDiff, Nat.reduceLT, reduceCtorEq, c30, k30, w_rem32, w_add, w_mul]
  have hxy : x * y / 18446744073709551616 < 18446744073709551616 := by
    rw [Nat.div_lt_iff_lt_mul (by decide)]
    exact Nat.mul_lt_mul'' hx hy
  rw [← b4] at hxy ⊢
  generalize x * y = xy at *
  generalize x / 4294967296 * (y / 4294967296) = p at *
  generalize x / 4294967296 * (y % 4294967296) = q at *
  generalize x % 4294967296 * (y / 4294967296) = r at *
  generalize x % 4294967296 * (y % 4294967296) = s at *
  simp only [Prod.mk.injEq, U64.mk.injEq]
  exact ⟨by omega, by omega⟩
end Go.Proofs.YtfmeplnoikfndaaDoor
