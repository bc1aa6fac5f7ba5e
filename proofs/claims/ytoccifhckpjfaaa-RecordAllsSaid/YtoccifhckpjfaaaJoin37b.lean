/- The contracts of all records, together. -/
import Derived.Test.YtoccifhckpjfaaaRec37u
namespace Go.Proofs.Ytoccifhckpjfaaa
set_option linter.all false
open Go.Idl
set_option maxRecDepth 100000
theorem all37b : ∃ Φ : Specs, Idl.Good Try.prog Φ ∧ Φ 7 = some SSmall ∧ Φ 8 = some (FT fun (_ : Unit) => some true) ∧ Φ 12 = some SPutR ∧ Φ 13 = some SAll ∧ Φ 14 = some SAllR ∧ Φ 15 = some SEqRec := by
  have g : Idl.Good Try.prog (fun _ => none) := good_none (by kernel_rfl)
  have g := g.add (facts_enters ic55) (con55 g)
  have g := g.add (facts_enters ic60) (con60 g)
  have g := g.add (facts_enters ic42) (con42 g rfl)
  have g := g.add (facts_enters ic49) (con49 g rfl)
  have g := g.add (facts_enters ic20) (con20 g rfl)
  have g := g.add (facts_enters ic50) (con50 g rfl)
  have g := g.add (facts_enters ic51) (con51 g)
  have g := g.add (facts_enters ic33) (con33 g rfl rfl rfl)
  have g := g.add (facts_enters ic21) (con21 g)
  have g := g.add (facts_enters ic56) (con56 g)
  have g := g.add (facts_enters ic22) (con22 g)
  have g := g.add (facts_enters ic43) (con43 g rfl rfl)
  have g := g.add (facts_enters ic23) (con23 g rfl)
  have g := g.add (facts_enters ic10) (con10 g rfl rfl rfl rfl)
  have g := g.add (facts_enters ic24) (con24 g)
  have g := g.add (facts_enters ic44) (con44 g)
  have g := g.add (facts_enters ic37) (con37 g rfl)
  have g := g.add (facts_enters ic26) (con26 g rfl)
  have g := g.add (facts_enters ic39) (con39 g)
  have g := g.add (facts_enters ic58) (con58 g)
  have g := g.add (facts_enters ic41) (con41 g)
  have g := g.add (facts_enters ic59) (con59 g)
  have g := g.add (facts_enters ic53) (con53 g rfl)
  have g := g.add (facts_enters ic19) (con19 g rfl rfl rfl)
  have g := g.add (facts_enters ic48) (con48 g rfl rfl)
  have g := g.add (facts_enters ic57) (con57 g)
  have g := g.add (facts_enters ic38) (con38 g rfl)
  have g := g.add (facts_enters ic16) (con16 g rfl rfl rfl rfl rfl rfl rfl rfl rfl)
  have g := g.add (facts_enters ic17) (con17 g)
  have g := g.add (facts_enters ic18) (con18 g rfl)
  have g := g.add (facts_enters ic11) (con11 g rfl)
  have g := g.add (facts_enters ic9) (con9 g rfl rfl rfl rfl)
  have g := g.add (facts_enters ic7) (con7 g)
  have g := g.add (facts_enters ic8) (con8 g rfl)
  have g := g.add (facts_enters ic47) (con47 g rfl)
  have g := g.add (facts_enters ic45) (con45 g rfl)
  have g := g.add (facts_enters ic46) (con46 g)
  have g := g.add (facts_enters ic30) (con30 g rfl rfl rfl rfl rfl)
  have g := g.add (facts_enters ic28) (con28 g)
  have g := g.add (facts_enters ic25) (con25 g)
  have g := g.add (facts_enters ic27) (con27 g rfl)
  have g := g.add (facts_enters ic12) (con12 g rfl rfl rfl rfl rfl)
  have g := g.add (facts_enters ic31) (con31 g)
  have g := g.add (facts_enters ic29) (con29 g rfl)
  have g := g.add (facts_enters ic32) (con32 g)
  have g := g.add (facts_enters ic15) (con15 g rfl)
  have g := g.add (facts_enters ic13) (con13 g rfl)
  have g := g.add (facts_enters ic14) (con14 g rfl rfl rfl)
  exact ⟨_, g, rfl, rfl, rfl, rfl, rfl, rfl⟩
theorem Try.own : ownKnob Try.prog.godebug = none := by kernel_rfl
theorem Try.laidOut : laidOutB Try.prog = true := by kernel_rfl
theorem rdRdg {n : Nat} : Reads Try.prog (n + 2) 34 Rdg Rdg.ok := by
  intro cs hs
  rw [shape_struct Try.underlying34] at hs
  obtain ⟨p0, q0, rfl, h0, hs⟩ := shapeFs_cons hs
  obtain ⟨p1, q1, rfl, h1, hs⟩ := shapeFs_cons hs
  cases shapeFs_nil hs
  obtain ⟨a0, _, rfl, k0⟩ := (Reads.int (by kernel_rfl)) _ h0
  obtain ⟨a1, _, rfl, k1⟩ := (Reads.int (by kernel_rfl)) _ h1
  exact ⟨⟨a0, a1⟩, by rw [aggT_struct Try.underlying34]; rfl, rfl, k0, k1⟩
theorem rdEvD {n : Nat} : Reads Try.prog (n + 4) 27 EvD EvD.ok := by
  intro cs hs
  rw [shape_struct Try.underlying27] at hs
  obtain ⟨p0, q0, rfl, h0, hs⟩ := shapeFs_cons hs
  obtain ⟨p1, q1, rfl, h1, hs⟩ := shapeFs_cons hs
  obtain ⟨p2, q2, rfl, h2, hs⟩ := shapeFs_cons hs
  obtain ⟨p3, q3, rfl, h3, hs⟩ := shapeFs_cons hs
  obtain ⟨p4, q4, rfl, h4, hs⟩ := shapeFs_cons hs
  obtain ⟨p5, q5, rfl, h5, hs⟩ := shapeFs_cons hs
  obtain ⟨p6, q6, rfl, h6, hs⟩ := shapeFs_cons hs
  obtain ⟨p7, q7, rfl, h7, hs⟩ := shapeFs_cons hs
  obtain ⟨p8, q8, rfl, h8, hs⟩ := shapeFs_cons hs
  obtain ⟨p9, q9, rfl, h9, hs⟩ := shapeFs_cons hs
  cases shapeFs_nil hs
  obtain ⟨a0, _, rfl, k0⟩ := (Reads.str (by kernel_rfl)) _ h0
  obtain ⟨a1, _, rfl, k1⟩ := (Reads.str (by kernel_rfl)) _ h1
  obtain ⟨a2, _, rfl, k2⟩ := (Reads.int (by kernel_rfl)) _ h2
  obtain ⟨a3, _, rfl, k3⟩ := (Reads.int (by kernel_rfl)) _ h3
  obtain ⟨a4, _, rfl, k4⟩ := (Reads.int (by kernel_rfl)) _ h4
  obtain ⟨a5, _, rfl, k5⟩ := (Reads.int (by kernel_rfl)) _ h5
  obtain ⟨a6, _, rfl, k6⟩ := (Reads.str (by kernel_rfl)) _ h6
  obtain ⟨a7, _, rfl, k7⟩ := (Reads.bool (by kernel_rfl)) _ h7
  obtain ⟨a8, _, rfl, k8⟩ := (Reads.int (by kernel_rfl)) _ h8
  obtain ⟨a9, _, rfl, k9⟩ := (Reads.list (by kernel_rfl) (by kernel_rfl) (rdRdg)) _ h9
  exact ⟨⟨a0, a1, a2, a3, a4, a5, a6, a7, a8, a9⟩, by rw [aggT_struct Try.underlying27]; rfl, rfl, k0, k1, k2, k3, k4, k5, k6, k7, k8, k9⟩
end Go.Proofs.Ytoccifhckpjfaaa
