/- The contracts together. -/
import Derived.Test.YtkgjifofpejanaaLaw47
import Derived.Test.YtkgjifofpejanaaAwake47
namespace Go.Proofs.Ytkgjifofpejanaa
open Go.Idl
theorem all47 : ∃ Φ : Specs, Idl.Good Try.prog Φ ∧ Φ 7 = some (FT fun (t : Disp × Unit) => some (shortD t.1)) ∧ Φ 8 = some Aw ∧ Φ 9 = some S9 ∧ Φ 10 = some S9 ∧ Φ 14 = some S14 ∧ Φ 15 = some S14 := by
  have g := good0
  have g := g.add (facts_enters ic38) (con38 g)
  have g := g.add (facts_enters ic28) (con28 g)
  have g := g.add (facts_enters ic29) (con29 g rfl)
  have g := g.add (facts_enters ic18) (con18 g rfl)
  have g := g.add (facts_enters ic19) (con19 g rfl)
  have g := g.add (facts_enters ic9) (con9 g rfl)
  have g := g.add (facts_enters ic10) (con10 g rfl)
  have g := g.add (facts_enters ic7) (con7 g)
  have g := g.add (facts_enters ic8) conAw
  have g := g.add (facts_enters ic22) (con22 g)
  have g := g.add (facts_enters ic23) (con23 g)
  have g := g.add (facts_enters ic24) (con24 g)
  have g := g.add (facts_enters ic25) (con25 g)
  have g := g.add (facts_enters ic26) (con26 g)
  have g := g.add (facts_enters ic27) (con27 g)
  have g := g.add (facts_enters ic14) (con14 g rfl rfl rfl rfl rfl)
  have g := g.add (facts_enters ic15) (con15 g rfl rfl rfl rfl rfl)
  exact ⟨_, g, rfl, rfl, rfl, rfl, rfl, rfl⟩

theorem Try.own : ownKnob Try.prog.godebug = none := by kernel_rfl
theorem Try.laidOut : laidOutB Try.prog = true := by kernel_rfl
theorem rdDisp {n : Nat} : Reads Try.prog (n + 2) 23 Disp Disp.ok := by
  intro cs hs
  rw [shape_struct Try.underlying23] at hs
  obtain ⟨p0, q0, rfl, h0, hs⟩ := shapeFs_cons hs
  obtain ⟨p1, q1, rfl, h1, hs⟩ := shapeFs_cons hs
  obtain ⟨p2, q2, rfl, h2, hs⟩ := shapeFs_cons hs
  obtain ⟨p3, q3, rfl, h3, hs⟩ := shapeFs_cons hs
  obtain ⟨p4, q4, rfl, h4, hs⟩ := shapeFs_cons hs
  obtain ⟨p5, q5, rfl, h5, hs⟩ := shapeFs_cons hs
  cases shapeFs_nil hs
  obtain ⟨a0, _, rfl, k0⟩ := Reads.str Try.underlying9 _ h0
  obtain ⟨a1, _, rfl, k1⟩ := Reads.str Try.underlying9 _ h1
  obtain ⟨a2, _, rfl, k2⟩ := Reads.int Try.underlying3 _ h2
  obtain ⟨a3, _, rfl, k3⟩ := Reads.int Try.underlying3 _ h3
  obtain ⟨a4, _, rfl, k4⟩ := Reads.int Try.underlying3 _ h4
  obtain ⟨a5, _, rfl, k5⟩ := Reads.int Try.underlying3 _ h5
  exact ⟨⟨a0, a1, a2, a3, a4, a5⟩, by rw [aggT_struct Try.underlying23]; rfl, rfl, k0, k1, k2, k3, k4, k5⟩
end Go.Proofs.Ytkgjifofpejanaa
