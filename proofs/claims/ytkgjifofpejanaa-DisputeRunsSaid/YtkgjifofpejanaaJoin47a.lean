/- The contracts together; what is read. -/
import Derived.Test.YtkgjifofpejanaaLaw47
import Derived.Test.YtkgjifofpejanaaAwake47
namespace Go.Proofs.Ytkgjifofpejanaa
set_option linter.all false
open Go.Idl
theorem all47 : ∃ Φ : Specs, Idl.Good Try.prog Φ ∧ Φ 7 = some (FT fun (t : Disp × Unit) => some (shortD t.1)) ∧ Φ 8 = some Aw ∧ Φ 9 = some S9 ∧ Φ 10 = some S9 ∧ Φ 14 = some S14 ∧ Φ 15 = some S14 ∧
    Φ 11 = some SBrief ∧ Φ 12 = some SOpen ∧ Φ 13 = some SOpenR ∧ Φ 16 = some SAmount := by
  have g := good0
  have g := g.add (facts_enters ic38) (con38 g)
  have g := g.add (facts_enters ic28) (con28 g)
  have g := g.add (facts_enters ic29) (con29 g rfl)
  have g := g.add (facts_enters ic18) (con18 g rfl)
  have g := g.add (facts_enters ic19) (con19 g rfl)
  have g := g.add (facts_enters ic9) (con9 g rfl)
  have g := g.add (facts_enters ic10) (con10 g rfl)
  have g := g.add (facts_enters ic7) (con7 g)
  have g := g.add (facts_enters ic8) conAw
  have g := g.add (facts_enters ic22) (con22 g)
  have g := g.add (facts_enters ic23) (con23 g)
  have g := g.add (facts_enters ic24) (con24 g)
  have g := g.add (facts_enters ic25) (con25 g)
  have g := g.add (facts_enters ic26) (con26 g)
  have g := g.add (facts_enters ic27) (con27 g)
  have g := g.add (facts_enters ic14) (con14 g rfl rfl rfl rfl rfl)
  have g := g.add (facts_enters ic15) (con15 g rfl rfl rfl rfl rfl)
  have g := g.add (facts_enters ic11) (con11 g)
  have g := g.add (facts_enters ic30) (con30 g rfl)
  have g := g.add (facts_enters ic31) (con31 g)
  have g := g.add (facts_enters ic35) (con35 g)
  have g := g.add (facts_enters ic32) (con32 g)
  have g := g.add (facts_enters ic36) (con36 g)
  have g := g.add (facts_enters ic39) (con39 g rfl)
  have g := g.add (facts_enters ic37) (con37 g rfl)
  have g := g.add (facts_enters ic33) (con33 g rfl)
  have g := g.add (facts_enters ic34) (con34 g rfl)
  have g := g.add (facts_enters ic20) (con20 g rfl rfl rfl rfl rfl)
  have g := g.add (facts_enters ic21) (con21 g rfl rfl rfl rfl)
  have g := g.add (facts_enters ic12) (con12 g rfl)
  have g := g.add (facts_enters ic13) (con13 g rfl)
  have g := g.add (facts_enters ic16) (con16 g)
  exact ⟨_, g, rfl, rfl, rfl, rfl, rfl, rfl, rfl, rfl, rfl, rfl⟩

theorem Try.own : ownKnob Try.prog.godebug = none := by kernel_rfl
theorem Try.laidOut : laidOutB Try.prog = true := by kernel_rfl
theorem rdDisp {n : Nat} : Reads Try.prog (n + 2) 23 Disp Disp.ok := by
  intro cs hs
  rw [shape_struct Try.underlying23] at hs
  obtain ⟨p0, q0, rfl, h0, hs⟩ := shapeFs_cons hs
  obtain ⟨p1, q1, rfl, h1, hs⟩ := shapeFs_cons hs
  obtain ⟨p2, q2, rfl, h2, hs⟩ := shapeFs_cons hs
  obtain ⟨p3, q3, rfl, h3, hs⟩ := shapeFs_cons hs
  obtain ⟨p4, q4, rfl, h4, hs⟩ := shapeFs_cons hs
  obtain ⟨p5, q5, rfl, h5, hs⟩ := shapeFs_cons hs
  cases shapeFs_nil hs
  obtain ⟨a0, _, rfl, k0⟩ := (Reads.str (by kernel_rfl)) _ h0
  obtain ⟨a1, _, rfl, k1⟩ := (Reads.str (by kernel_rfl)) _ h1
  obtain ⟨a2, _, rfl, k2⟩ := (Reads.int (by kernel_rfl)) _ h2
  obtain ⟨a3, _, rfl, k3⟩ := (Reads.int (by kernel_rfl)) _ h3
  obtain ⟨a4, _, rfl, k4⟩ := (Reads.int (by kernel_rfl)) _ h4
  obtain ⟨a5, _, rfl, k5⟩ := (Reads.int (by kernel_rfl)) _ h5
  exact ⟨⟨a0, a1, a2, a3, a4, a5⟩, by rw [aggT_struct Try.underlying23]; rfl, rfl, k0, k1, k2, k3, k4, k5⟩
theorem rdItemD {n : Nat} : Reads Try.prog (n + 2) 53 ItemD ItemD.ok := by
  intro cs hs
  rw [shape_struct Try.underlying53] at hs
  obtain ⟨p0, q0, rfl, h0, hs⟩ := shapeFs_cons hs
  obtain ⟨p1, q1, rfl, h1, hs⟩ := shapeFs_cons hs
  obtain ⟨p2, q2, rfl, h2, hs⟩ := shapeFs_cons hs
  obtain ⟨p3, q3, rfl, h3, hs⟩ := shapeFs_cons hs
  obtain ⟨p4, q4, rfl, h4, hs⟩ := shapeFs_cons hs
  obtain ⟨p5, q5, rfl, h5, hs⟩ := shapeFs_cons hs
  obtain ⟨p6, q6, rfl, h6, hs⟩ := shapeFs_cons hs
  cases shapeFs_nil hs
  obtain ⟨a0, _, rfl, k0⟩ := (Reads.int (by kernel_rfl)) _ h0
  obtain ⟨a1, _, rfl, k1⟩ := (Reads.int (by kernel_rfl)) _ h1
  obtain ⟨a2, _, rfl, k2⟩ := (Reads.int (by kernel_rfl)) _ h2
  obtain ⟨a3, _, rfl, k3⟩ := (Reads.int (by kernel_rfl)) _ h3
  obtain ⟨a4, _, rfl, k4⟩ := (Reads.int (by kernel_rfl)) _ h4
  obtain ⟨a5, _, rfl, k5⟩ := (Reads.int (by kernel_rfl)) _ h5
  obtain ⟨a6, _, rfl, k6⟩ := (Reads.int (by kernel_rfl)) _ h6
  exact ⟨⟨a0, a1, a2, a3, a4, a5, a6⟩, by rw [aggT_struct Try.underlying53]; rfl, rfl, k0, k1, k2, k3, k4, k5, k6⟩
theorem rdCdrD {n : Nat} : Reads Try.prog (n + 4) 30 CdrD CdrD.ok := by
  intro cs hs
  rw [shape_struct Try.underlying30] at hs
  obtain ⟨p0, q0, rfl, h0, hs⟩ := shapeFs_cons hs
  obtain ⟨p1, q1, rfl, h1, hs⟩ := shapeFs_cons hs
  obtain ⟨p2, q2, rfl, h2, hs⟩ := shapeFs_cons hs
  obtain ⟨p3, q3, rfl, h3, hs⟩ := shapeFs_cons hs
  obtain ⟨p4, q4, rfl, h4, hs⟩ := shapeFs_cons hs
  obtain ⟨p5, q5, rfl, h5, hs⟩ := shapeFs_cons hs
  obtain ⟨p6, q6, rfl, h6, hs⟩ := shapeFs_cons hs
  obtain ⟨p7, q7, rfl, h7, hs⟩ := shapeFs_cons hs
  obtain ⟨p8, q8, rfl, h8, hs⟩ := shapeFs_cons hs
  obtain ⟨p9, q9, rfl, h9, hs⟩ := shapeFs_cons hs
  obtain ⟨p10, q10, rfl, h10, hs⟩ := shapeFs_cons hs
  obtain ⟨p11, q11, rfl, h11, hs⟩ := shapeFs_cons hs
  obtain ⟨p12, q12, rfl, h12, hs⟩ := shapeFs_cons hs
  obtain ⟨p13, q13, rfl, h13, hs⟩ := shapeFs_cons hs
  cases shapeFs_nil hs
  obtain ⟨a0, _, rfl, k0⟩ := (Reads.str (by kernel_rfl)) _ h0
  obtain ⟨a1, _, rfl, k1⟩ := (Reads.str (by kernel_rfl)) _ h1
  obtain ⟨a2, _, rfl, k2⟩ := (Reads.str (by kernel_rfl)) _ h2
  obtain ⟨a3, _, rfl, k3⟩ := (Reads.str (by kernel_rfl)) _ h3
  obtain ⟨a4, _, rfl, k4⟩ := (Reads.int (by kernel_rfl)) _ h4
  obtain ⟨a5, _, rfl, k5⟩ := (Reads.int (by kernel_rfl)) _ h5
  obtain ⟨a6, _, rfl, k6⟩ := (Reads.int (by kernel_rfl)) _ h6
  obtain ⟨a7, _, rfl, k7⟩ := (Reads.int (by kernel_rfl)) _ h7
  obtain ⟨a8, _, rfl, k8⟩ := (Reads.str (by kernel_rfl)) _ h8
  obtain ⟨a9, _, rfl, k9⟩ := (Reads.str (by kernel_rfl)) _ h9
  obtain ⟨a10, _, rfl, k10⟩ := (Reads.list (by kernel_rfl) (by kernel_rfl) (rdItemD)) _ h10
  obtain ⟨a11, _, rfl, k11⟩ := (Reads.int (by kernel_rfl)) _ h11
  obtain ⟨a12, _, rfl, k12⟩ := (Reads.bool (by kernel_rfl)) _ h12
  obtain ⟨a13, _, rfl, k13⟩ := (Reads.str (by kernel_rfl)) _ h13
  exact ⟨⟨a0, a1, a2, a3, a4, a5, a6, a7, a8, a9, a10, a11, a12, a13⟩, by rw [aggT_struct Try.underlying30]; rfl, rfl, k0, k1, k2, k3, k4, k5, k6, k7, k8, k9, k10, k11, k12, k13⟩
theorem rdMoveD {n : Nat} : Reads Try.prog (n + 2) 36 MoveD MoveD.ok := by
  intro cs hs
  rw [shape_struct Try.underlying36] at hs
  obtain ⟨p0, q0, rfl, h0, hs⟩ := shapeFs_cons hs
  obtain ⟨p1, q1, rfl, h1, hs⟩ := shapeFs_cons hs
  obtain ⟨p2, q2, rfl, h2, hs⟩ := shapeFs_cons hs
  obtain ⟨p3, q3, rfl, h3, hs⟩ := shapeFs_cons hs
  cases shapeFs_nil hs
  obtain ⟨a0, _, rfl, k0⟩ := (Reads.str (by kernel_rfl)) _ h0
  obtain ⟨a1, _, rfl, k1⟩ := (Reads.int (by kernel_rfl)) _ h1
  obtain ⟨a2, _, rfl, k2⟩ := (Reads.int (by kernel_rfl)) _ h2
  obtain ⟨a3, _, rfl, k3⟩ := (Reads.int (by kernel_rfl)) _ h3
  exact ⟨⟨a0, a1, a2, a3⟩, by rw [aggT_struct Try.underlying36]; rfl, rfl, k0, k1, k2, k3⟩
end Go.Proofs.Ytkgjifofpejanaa
