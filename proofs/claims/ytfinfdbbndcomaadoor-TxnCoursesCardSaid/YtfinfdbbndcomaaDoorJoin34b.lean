/- The contract of the law of courses. -/
import Derived.Test.YtfinfdbbndcomaaDoorJoin34
import Derived.Test.YtfinfdbbndcomaaDoorLaw34b
namespace Go.Proofs.YtfinfdbbndcomaaDoor
set_option linter.all false
open Go.Idl
theorem C7 : Contract Tryd.prog 7 (FT fun (_ : CourseD × Unit) => some true) := by
  obtain ⟨Φ, g, h1, h2, h3, h4, h5, h6, h7, h8, h9, h10, h11, h12⟩ := all34
  exact con7 g h2 h5 h7 h9 h11 h12
theorem rdCourseD {n : Nat} : Reads Tryd.prog (n + 4) 48 CourseD CourseD.ok := by
  intro cs hs
  rw [shape_struct Tryd.underlying48] at hs
  obtain ⟨p0, q0, rfl, h0, hs⟩ := shapeFs_cons hs
  obtain ⟨p1, q1, rfl, h1, hs⟩ := shapeFs_cons hs
  obtain ⟨p2, q2, rfl, h2, hs⟩ := shapeFs_cons hs
  cases shapeFs_nil hs
  obtain ⟨a0, _, rfl, k0⟩ := (rdStartD) _ h0
  obtain ⟨a1, _, rfl, k1⟩ := (Reads.list (by kernel_rfl) (by kernel_rfl) (rdRdg)) _ h1
  obtain ⟨a2, _, rfl, k2⟩ := (Reads.int (by kernel_rfl)) _ h2
  exact ⟨⟨a0, a1, a2⟩, by rw [aggT_struct Tryd.underlying48]; rfl, rfl, k0, k1, k2⟩
end Go.Proofs.YtfinfdbbndcomaaDoor
