/- Sums in two words (plain). -/
namespace Go.Proofs.Ytalhbhbkdfmhgaa
set_option linter.all false
set_option linter.all false
def sumZ (l : List Int) : Int × Int := if -9223372036854775808 ≤ l.sum ∧ l.sum ≤ 9223372036854775807 then (l.sum, 0) else (0, 20)
structure Two (h l s : Int) : Prop where
  h0 : 0 ≤ h
  h1 : h < 18446744073709551616
  l0 : 0 ≤ l
  l1 : l < 18446744073709551616
  eq : (h * 18446744073709551616 + l - s) % 340282366920938463463374607431768211456 = 0
theorem Two.zero : Two 0 0 0 := ⟨by omega, by omega, by omega, by omega, by decide⟩
theorem Two.step {h l s : Int} (g : Two h l s) (n : Int) (h0 : -9223372036854775808 ≤ n) (h1 : n ≤ 9223372036854775807) {c l' h' : Int}
    (hc : c = (l + n % 18446744073709551616) / 18446744073709551616) (hl : l' = (l + n % 18446744073709551616) % 18446744073709551616)
    (hh : h' = if n < 0 then ((h + c) % 18446744073709551616 - 1) % 18446744073709551616 else (h + c) % 18446744073709551616) : Two h' l' (s + n) := by
  obtain ⟨a, b, c1, d, e⟩ := g
  split at hh <;> exact ⟨by omega, by omega, by omega, by omega, by omega⟩
theorem Two.ok {h l s : Int} (g : Two h l s) (hs : -42535295865117307932921825928971026432 ≤ s ∧ s ≤ 42535295865117307932921825928971026432) :
    (h = 0 ∧ l < 9223372036854775808 → s = l) ∧ (h = 18446744073709551615 ∧ 9223372036854775808 ≤ l → s = l - 18446744073709551616) ∧
    (-9223372036854775808 ≤ s ∧ s ≤ 9223372036854775807 → (h = 0 ∧ l < 9223372036854775808) ∨ (h = 18446744073709551615 ∧ 9223372036854775808 ≤ l)) := by
  obtain ⟨a, b, c1, d, e⟩ := g
  exact ⟨by omega, by omega, by omega⟩
theorem sum_bound : ∀ (l : List Int), (∀ n, n ∈ l → -9223372036854775808 ≤ n ∧ n ≤ 9223372036854775807) → -9223372036854775808 * (l.length : Int) ≤ l.sum ∧ l.sum ≤ 9223372036854775808 * (l.length : Int)
  | [], _ => by simp
  | x :: l, h => by
    have ih := sum_bound l fun n hn => h n (List.mem_cons_of_mem _ hn)
    have hx := h x (by simp)
    rw [List.sum_cons, List.length_cons]
    omega
end Go.Proofs.Ytalhbhbkdfmhgaa
