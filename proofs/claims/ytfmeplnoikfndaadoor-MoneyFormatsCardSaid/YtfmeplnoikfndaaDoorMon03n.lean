/- Rounded quotients (plain). -/
import Derived.Lib.Mul64
namespace Go.Proofs.YtfmeplnoikfndaaDoor
set_option linter.all false
set_option linter.all false
def upS (q r d : Nat) (m : Int) : Bool :=
  if m = 4 then decide (0 < r) else if m = 2 ∧ r = d - r ∧ q % 2 = 0 then false else if m = 1 ∨ m = 2 then decide (d - r ≤ r) else false
def roundN (N d : Nat) (m : Int) : Nat := N / d + (if upS (N / d) (N % d) d m = true then 1 else 0)
def signS (neg : Bool) (q : Nat) : Int × Int := bif neg then (if q ≤ 9223372036854775808 then (-(q : Int), 0) else (0, 20)) else (if q < 9223372036854775808 then ((q : Int), 0) else (0, 20))
def scaleS (a n d m : Int) : Int × Int :=
  if d < 1 then (0, 1) else if m < 1 ∨ 4 < m then (0, 2) else signS (decide (a < 0) != decide (n < 0)) (roundN (a.natAbs * n.natAbs) d.toNat m)
theorem upS_rest {q r d : Nat} {m : Int} (h : upS q r d m = true) (hd : 0 < d) : 0 < r := by
  unfold upS at h
  split at h
  · simpa using h
  · split at h
    · cases h
    · split at h
      · simp at h; omega
      · cases h
theorem round_le {N d : Nat} (hd : 0 < d) (m : Int) : roundN N d m ≤ N := by
  have e := Nat.div_add_mod N d
  have hq : N / d ≤ d * (N / d) := Nat.le_mul_of_pos_left _ hd
  unfold roundN
  split
  · rename_i h
    have := upS_rest h hd
    omega
  · omega
theorem round_near {N d : Nat} (hd : 0 < d) (m : Int) (hm : 1 ≤ m ∧ m ≤ 4) :
    ∃ e : Int, (N : Int) - (roundN N d m : Int) * d = e ∧ -(d : Int) < e ∧ e < d ∧ (m < 3 → -e ≤ d + e ∧ e ≤ d - e) ∧ (m = 3 → 0 ≤ e) ∧ (m = 4 → e ≤ 0) := by
  have e := Nat.div_add_mod N d
  have hr := Nat.mod_lt N hd
  refine ⟨_, rfl, ?_⟩
  unfold roundN
  generalize hq : N / d = q at *
  generalize hR : N % d = r at *
  have eq0 : (N : Int) = (q : Int) * d + r := by rw [← e, Int.natCast_add, Int.natCast_mul, Int.mul_comm]
  cases hu : upS q r d m with
  | false =>
    have e1 : (N : Int) - ((q + (if (false : Bool) = true then 1 else 0) : Nat) : Int) * d = r := by
      rw [eq0]; simp; omega
    rw [e1]
    have hup : (m < 3 → 2 * r ≤ d) ∧ (m = 4 → r = 0) := by
      unfold upS at hu
      split at hu
      · simp at hu; exact ⟨by omega, by omega⟩
      · split at hu
        · exact ⟨by omega, by omega⟩
        · split at hu
          · simp at hu; exact ⟨by omega, by omega⟩
          · exact ⟨by omega, by omega⟩
    refine ⟨by omega, by omega, fun h => by have := hup.1 h; omega, fun _ => by omega, fun h => by have := hup.2 h; omega⟩
  | true =>
    have e1 : (N : Int) - ((q + (if (true : Bool) = true then 1 else 0) : Nat) : Int) * d = r - d := by
      rw [eq0, if_pos rfl, Int.natCast_add, Int.add_mul]; simp; omega
    rw [e1]
    have hrp := upS_rest hu hd
    have hup : (m < 3 → d ≤ 2 * r) ∧ m ≠ 3 := by
      unfold upS at hu
      split at hu
      · exact ⟨by omega, by omega⟩
      · split at hu
        · cases hu
        · split at hu
          · simp at hu; exact ⟨by omega, by omega⟩
          · cases hu
    refine ⟨by omega, by omega, fun h => by have := hup.1 h; omega, fun h => absurd h hup.2, fun h => by omega⟩
theorem near_ok {num den m : Int} (hd : 1 ≤ den) (hm : 1 ≤ m ∧ m ≤ 4) (h0 : -9223372036854775808 ≤ num) (h1 : num ≤ 9223372036854775807) :
    ∃ q e : Int, scaleS num 1 den m = (q, 0) ∧ num - q * den = e ∧ -den < e ∧ e < den ∧ (m < 3 → -e ≤ den + e ∧ e ≤ den - e) ∧ (m = 3 → (0 ≤ num → 0 ≤ e) ∧ (num < 0 → e ≤ 0)) ∧ (m = 4 → (0 ≤ num → e ≤ 0) ∧ (num < 0 → 0 ≤ e)) ∧
      -9223372036854775808 ≤ q ∧ q ≤ 9223372036854775807 ∧ (num ≠ -9223372036854775808 → scaleS (-num) 1 den m = (-q, 0) ∧ q ≠ -9223372036854775808) := by
  have hle := round_le (N := num.natAbs) (d := den.toNat) (by omega) m
  obtain ⟨e, g1, g2, g3, g4, g5, g6⟩ := round_near (N := num.natAbs) (d := den.toNat) (by omega) m hm
  have hdn : ((den.toNat : Nat) : Int) = den := by omega
  rw [hdn] at g1 g2 g3 g4
  have hs : ∀ x : Int, x.natAbs = num.natAbs → scaleS x 1 den m = signS (decide (x < 0)) (roundN num.natAbs den.toNat m) := fun x hx => by
    unfold scaleS
    rw [if_neg (by omega), if_neg (by omega), hx]
    simp
  rw [hs num rfl]
  rw [hs (-num) (by omega)]
  generalize roundN num.natAbs den.toNat m = q at *
  by_cases hn : num < 0
  · have hA : ((num.natAbs : Nat) : Int) = -num := by omega
    rw [hA] at g1
    have d1 : decide (num < 0) = true := decide_eq_true hn
    have d2 : decide (-num < 0) = false := by simp; omega
    refine ⟨-(q : Int), -e, ?_, ?_, by omega, by omega, fun h => by have := g4 h; omega, fun h => by have := g5 h; omega, fun h => by have := g6 h; omega, by omega, by omega, fun hx => ⟨?_, by omega⟩⟩
    · rw [d1, signS, cond_true, if_pos (by omega)]
    · rw [Int.neg_mul]; omega
    · rw [d2, signS, cond_false, if_pos (by omega)]; simp
  · have hA : ((num.natAbs : Nat) : Int) = num := by omega
    rw [hA] at g1
    have d1 : decide (num < 0) = false := by simp; omega
    have hq : num = 0 → q = 0 := by intro h; subst h; simp at hle; exact hle
    refine ⟨(q : Int), e, ?_, g1, by omega, by omega, fun h => by have := g4 h; omega, fun h => by have := g5 h; omega, fun h => by have := g6 h; omega, by omega, by omega, fun hx => ⟨?_, by omega⟩⟩
    · rw [d1, signS, cond_false, if_pos (by omega)]
    · by_cases h0 : num = 0
      · have d2 : decide (-num < 0) = false := by simp; omega
        rw [d2, signS, cond_false, if_pos (by omega), hq h0]; rfl
      · have d2 : decide (-num < 0) = true := decide_eq_true (by omega)
        rw [d2, signS, cond_true, if_pos (by omega)]
theorem scale_same {a d m : Int} (hd : 1 ≤ d) (hm : 1 ≤ m ∧ m ≤ 4) (h0 : -9223372036854775808 ≤ a) (h1 : a ≤ 9223372036854775807) : scaleS a d d m = (a, 0) := by
  unfold scaleS
  rw [if_neg (by omega), if_neg (by omega)]
  have e : d.natAbs = d.toNat := by omega
  have hp : 0 < d.toNat := by omega
  have hr : roundN (a.natAbs * d.natAbs) d.toNat m = a.natAbs := by
    rw [e, roundN, Nat.mul_div_cancel _ hp, Nat.mul_mod_left, if_neg]
    · rfl
    · intro h
      exact absurd (upS_rest h hp) (by omega)
  have d2 : decide (d < 0) = false := by simp; omega
  rw [hr, d2]
  by_cases hn : a < 0
  · have d1 : decide (a < 0) = true := decide_eq_true hn
    rw [d1, signS]
    show (bif true then _ else _) = _
    rw [cond_true, if_pos (by omega)]
    congr 1; omega
  · have d1 : decide (a < 0) = false := by simp; omega
    rw [d1, signS]
    show (bif false then _ else _) = _
    rw [cond_false, if_pos (by omega)]
    congr 1; omega
end Go.Proofs.YtfmeplnoikfndaaDoor
