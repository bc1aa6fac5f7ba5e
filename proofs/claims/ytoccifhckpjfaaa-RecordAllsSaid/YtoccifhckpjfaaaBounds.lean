/- The part of a collection that a transaction has: a search that is walked into. -/
import Derived.Test.YtoccifhckpjfaaaOrder36
namespace Go.Proofs.Ytoccifhckpjfaaa
set_option linter.all false
open Go.Idl
set_option maxHeartbeats 4000000
set_option maxRecDepth 100000
attribute [local go_sem] Try.underlying3 Try.underlying79 Try.underlying9
theorem takeW {α : Type} (p : α → Bool) : ∀ (l : List α), (l.takeWhile p).length ≤ l.length ∧ (∀ i, i < (l.takeWhile p).length → ∃ a, l[i]? = some a ∧ p a = true) ∧ (∀ a, l[(l.takeWhile p).length]? = some a → p a = false)
  | [] => by simp
  | x :: l => by
    obtain ⟨h1, h2, h3⟩ := takeW p l
    cases hp : p x with
    | true =>
      rw [List.takeWhile_cons_of_pos hp]
      refine ⟨by simpa using h1, fun i hi => ?_, fun a ha => h3 a (by simpa using ha)⟩
      cases i with
      | zero => exact ⟨x, rfl, hp⟩
      | succ i => exact h2 i (by simpa using hi)
    | false =>
      rw [List.takeWhile_cons_of_neg (by simp [hp])]
      refine ⟨by simp, fun i hi => by simp at hi, fun a ha => ?_⟩
      simp at ha; subst ha; exact hp
theorem Coll.le {l : List EvD} (hl : Coll l) {i j : Nat} (hij : i ≤ j) {a b : EvD} (ha : l[i]? = some a) (hb : l[j]? = some b) : cmpT (keyE a) (keyE b) ≤ 0 := by
  by_cases e : i = j
  · subst e; rw [ha] at hb; cases hb; rw [cmpT_eq.2 ⟨rfl, rfl⟩]; omega
  · obtain ⟨h1, h2⟩ := List.getElem?_eq_some_iff.1 ha
    obtain ⟨h3, h4⟩ := List.getElem?_eq_some_iff.1 hb
    have := List.pairwise_iff_getElem.1 hl.ord i j h1 h3 (by omega)
    rw [h2, h4] at this
    have := (bef_iff a b).1 this.1
    omega
end Go.Proofs.Ytoccifhckpjfaaa
