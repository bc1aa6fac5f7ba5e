/- Lists of objects compared. -/
import Derived.Test.YtikmficjcbkhcaaDir45j
namespace Go.Proofs.Ytikmficjcbkhcaa
set_option linter.all false
open Go.Idl
set_option maxHeartbeats 4000000
set_option maxRecDepth 100000
attribute [local go_sem] agObj agDir agOK agSh Try.underlying3 Try.underlying5 Try.underlying9 Try.underlying4
def sameL : List ObjD → List ObjD → Bool
  | [], [] => true
  | x :: xs, y :: ys => sameO x y && sameL xs ys
  | _, _ => false
theorem sameL_iff : ∀ {a b : List ObjD}, sameL a b = true ↔ a = b
  | [], [] => by simp [sameL]
  | [], _ :: _ => by simp [sameL]
  | _ :: _, [] => by simp [sameL]
  | x :: xs, y :: ys => by
    rw [sameL, Bool.and_eq_true, sameO_iff, sameL_iff]
    simp
def eqI : List Int → List Int → Bool
  | [], [] => true
  | x :: xs, y :: ys => (x == y) && eqI xs ys
  | _, _ => false
theorem eqI_iff : ∀ {a b : List Int}, eqI a b = true ↔ a = b
  | [], [] => by simp [eqI]
  | [], _ :: _ => by simp [eqI]
  | _ :: _, [] => by simp [eqI]
  | x :: xs, y :: ys => by
    rw [eqI, Bool.and_eq_true, eqI_iff]
    simp
def sameD (a b : DirD) : Bool := decide (a.party = b.party) && (a.next == b.next) && eqI a.marks b.marks && sameL a.objects b.objects
theorem sameD_iff {a b : DirD} : sameD a b = true ↔ a = b := by
  constructor
  · intro h
    simp only [sameD, Bool.and_eq_true, beq_iff_eq, decide_eq_true_eq, eqI_iff, sameL_iff] at h
    obtain ⟨⟨⟨h1, h2⟩, h3⟩, h4⟩ := h
    cases a; cases b
    simp at h1 h2 h3 h4
    subst h1 h2 h3 h4
    rfl
  · rintro rfl; simp [sameD, eqI_iff, sameL_iff]
def smallD (d : DirD) : Bool := decide (d.objects.length ≤ 1000000) && decide (d.marks.length ≤ 1000000)
end Go.Proofs.Ytikmficjcbkhcaa
