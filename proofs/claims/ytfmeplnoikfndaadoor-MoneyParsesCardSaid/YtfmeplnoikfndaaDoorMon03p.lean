/- Division of numbers of two words (plain). -/
import Derived.Lib.Mul64
namespace Go.Proofs.YtfmeplnoikfndaaDoor
set_option linter.all false
set_option linter.all false
theorem est_test {Y yn1 yn0 un u1 q r : Nat} (hY : Y = yn1 * 4294967296 + yn0) (hq : q * yn1 + r = un) : q * Y ≤ un * 4294967296 + u1 ↔ q * yn0 ≤ 4294967296 * r + u1 := by
  have e : q * Y = q * yn1 * 4294967296 + q * yn0 := by rw [hY, Nat.mul_add, Nat.mul_assoc]
  rw [e, ← hq]
  generalize q * yn1 = a
  generalize q * yn0 = b
  omega
theorem est_top {Y un u1 : Nat} (hu : un < Y) (h1 : u1 < 4294967296) : (un * 4294967296 + u1) / Y < 4294967296 := by
  rw [Nat.div_lt_iff_lt_mul (by omega), Nat.mul_comm]
  have : (un + 1) * 4294967296 ≤ Y * 4294967296 := Nat.mul_le_mul_right _ hu
  omega
theorem est_init {Y yn1 yn0 un u1 : Nat} (hY : Y = yn1 * 4294967296 + yn0) (h0 : 0 < yn1) (h1 : u1 < 4294967296) : (un * 4294967296 + u1) / Y ≤ un / yn1 := by
  rw [Nat.le_div_iff_mul_le h0]
  have h := Nat.div_mul_le_self (un * 4294967296 + u1) Y
  generalize (un * 4294967296 + u1) / Y = t at *
  have e : t * Y = t * yn1 * 4294967296 + t * yn0 := by rw [hY, Nat.mul_add, Nat.mul_assoc]
  rw [e] at h
  generalize t * yn1 = a at *
  generalize t * yn0 = b at *
  omega
theorem est_bound {Y yn1 yn0 un : Nat} (hY : Y = yn1 * 4294967296 + yn0) (h0 : 2147483648 ≤ yn1) (h1 : yn0 < 4294967296) (hu : un < Y) : un / yn1 ≤ 4294967297 := by
  have : un / yn1 < 4294967298 := by
    rw [Nat.div_lt_iff_lt_mul (by omega), Nat.mul_comm]
    omega
  omega
theorem est_done {Y yn1 yn0 un u1 q r : Nat} (hY : Y = yn1 * 4294967296 + yn0) (hY0 : 0 < Y) (hq : q * yn1 + r = un) (hlow : (un * 4294967296 + u1) / Y ≤ q) (ht : q * yn0 ≤ 4294967296 * r + u1) : q = (un * 4294967296 + u1) / Y := by
  have h := (est_test (u1 := u1) hY hq).2 ht
  have := (Nat.le_div_iff_mul_le hY0).2 h
  omega
theorem est_more {Y yn1 yn0 un u1 q r : Nat} (hY : Y = yn1 * 4294967296 + yn0) (hY0 : 0 < Y) (hq : q * yn1 + r = un) (ht : 4294967296 * r + u1 < q * yn0) : (un * 4294967296 + u1) / Y < q := by
  have h : ¬ q * Y ≤ un * 4294967296 + u1 := fun h => by have := (est_test (u1 := u1) hY hq).1 h; omega
  rw [Nat.div_lt_iff_lt_mul hY0]
  omega
theorem est_rest {yn0 u1 q r : Nat} (h1 : yn0 < 4294967296) (hq : q ≤ 4294967296) (hr : 4294967296 ≤ r) : q * yn0 ≤ 4294967296 * r + u1 := by
  have := Nat.mul_le_mul hq (show yn0 ≤ 4294967295 by omega)
  omega
theorem est_prod {yn0 q : Nat} (h1 : yn0 < 4294967296) (hq : q ≤ 4294967297) : q * yn0 < 18446744073709551616 := by
  have := Nat.mul_le_mul hq (show yn0 ≤ 4294967295 by omega)
  omega
theorem div_two {Y U u0 : Nat} (hY : 0 < Y) : 
    (U * 4294967296 + u0) / Y = U / Y * 4294967296 + (U % Y * 4294967296 + u0) / Y ∧ (U * 4294967296 + u0) % Y = (U % Y * 4294967296 + u0) % Y := by
  have e := Nat.div_add_mod U Y
  have h : U * 4294967296 + u0 = (U % Y * 4294967296 + u0) + Y * (U / Y * 4294967296) := by
    rw [← Nat.mul_assoc]
    omega
  constructor
  · conv => lhs; rw [h, Nat.add_mul_div_left _ _ hY, Nat.add_comm]
  · conv => lhs; rw [h, Nat.add_mul_mod_self_left]
theorem div_shift (N y k : Nat) (hy : 0 < y) (hk : 0 < k) : (N * k) / (y * k) = N / y ∧ (N * k) % (y * k) / k = N % y := by
  refine ⟨Nat.mul_div_mul_right _ _ hk, ?_⟩
  rw [Nat.mul_mod_mul_right, Nat.mul_div_cancel _ hk]
theorem bit_step {P d b : Nat} (hd : 0 < d) (hb : b ≤ 1) : 
    (2 * (P % d) + b < d → (2 * P + b) / d = 2 * (P / d) ∧ (2 * P + b) % d = 2 * (P % d) + b) ∧
    (d ≤ 2 * (P % d) + b → (2 * P + b) / d = 2 * (P / d) + 1 ∧ (2 * P + b) % d = 2 * (P % d) + b - d) := by
  have e := Nat.div_add_mod P d
  have hr := Nat.mod_lt P hd
  generalize P / d = q at *
  generalize P % d = r at *
  have h : 2 * P + b = d * (2 * q) + (2 * r + b) := by
    rw [← e, Nat.mul_left_comm]; omega
  constructor
  · intro hlt
    rw [h, Nat.mul_add_div hd, Nat.mul_add_mod]
    rw [Nat.div_eq_of_lt hlt, Nat.mod_eq_of_lt hlt]
    exact ⟨rfl, rfl⟩
  · intro hle
    have h2 : 2 * P + b = d * (2 * q + 1) + (2 * r + b - d) := by rw [h, Nat.mul_add]; omega
    have hlt : 2 * r + b - d < d := by omega
    rw [h2, Nat.mul_add_div hd, Nat.mul_add_mod, Nat.div_eq_of_lt hlt, Nat.mod_eq_of_lt hlt]
    exact ⟨rfl, rfl⟩
theorem bits_end {N P M : Nat} (h : N * 340282366920938463463374607431768211456 = P * 340282366920938463463374607431768211456 + M) (hM : M < 340282366920938463463374607431768211456) : P = N := by omega
theorem bits_next {N P M i : Nat} (h : N * 2 ^ i = P * 340282366920938463463374607431768211456 + M) (hM : M < 340282366920938463463374607431768211456) :
    M / 170141183460469231731687303715884105728 ≤ 1 ∧ N * 2 ^ (i + 1) = (2 * P + M / 170141183460469231731687303715884105728) * 340282366920938463463374607431768211456 + (2 * M - M / 170141183460469231731687303715884105728 * 340282366920938463463374607431768211456) ∧
      2 * M - M / 170141183460469231731687303715884105728 * 340282366920938463463374607431768211456 < 340282366920938463463374607431768211456 := by
  rw [Nat.pow_succ, ← Nat.mul_assoc, h]
  omega
theorem bits_P {N P M i : Nat} (hN : N < 340282366920938463463374607431768211456) (hi : i ≤ 128) (h : N * 2 ^ i = P * 340282366920938463463374607431768211456 + M) : P < 340282366920938463463374607431768211456 := by
  have h2 : 2 ^ i ≤ 2 ^ 128 := Nat.pow_le_pow_right (by omega) hi
  have h3 : N * 2 ^ i ≤ N * 2 ^ 128 := Nat.mul_le_mul_left _ h2
  have : (2 : Nat) ^ 128 = 340282366920938463463374607431768211456 := by decide
  rw [this] at h3
  omega
end Go.Proofs.YtfmeplnoikfndaaDoor
