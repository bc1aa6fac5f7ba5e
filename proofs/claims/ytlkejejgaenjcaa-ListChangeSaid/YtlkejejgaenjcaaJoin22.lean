/- The contracts of lists, together. -/
import Derived.Test.YtlkejejgaenjcaaList22o
import Derived.Test.YtlkejejgaenjcaaSortK
namespace Go.Proofs.Ytlkejejgaenjcaa
set_option linter.all false
open Go.Idl
set_option maxRecDepth 100000
theorem all22 : ∃ Φ : Specs, Idl.Good Try.prog Φ ∧ Φ 11 = some SEx ∧ Φ 10 = some SSml ∧ Φ 12 = some SVal ∧ Φ 13 = some SVal ∧ Φ 14 = some SFul ∧ Φ 15 = some SFul ∧
    Φ 17 = some SChg ∧ Φ 18 = some SChg ∧ Φ 19 = some SDif ∧ Φ 20 = some SDif ∧ Φ 21 = some SSmT ∧ Φ 16 = some SSmL ∧
    Φ 22 = some (FT fun (t : List TokD × TokD × Unit) => if t.1.length ≤ 1000000 ∧ okIds t.1 = true ∧ t.2.1.id.size ≤ 1000000 then some (hasK t.1 (kT t.2.1)) else none) ∧ Φ 23 = some (FT fun (t : List TokD × TokD × Unit) => if t.1.length ≤ 1000000 then some (hasT t.1 t.2.1) else none) := by
  have g : Idl.Good Try.prog (fun _ => none) := good_none (by kernel_rfl)
  have g := g.add (facts_enters ic44) (con44 g)
  have g := g.add (facts_enters ic37) (con37 g rfl)
  have g := g.add (facts_enters ic57) (con57 g)
  have g := g.add (facts_enters ic46) (con46 g rfl)
  have g := g.add (facts_enters ic39) (con39 g rfl)
  have g := g.add (facts_enters ic45) (con45 g)
  have g := g.add (facts_enters ic38) (con38 g rfl)
  have g := g.add (facts_enters ic25) (con25 g rfl)
  have g := g.add (facts_enters ic28) (con28 g rfl)
  have g := g.add (facts_enters ic30) (con30 g)
  have g := g.add (facts_enters ic29) (con29 g)
  have hby := con26 g rfl rfl
  have g := g.add (facts_enters ic26) hby
  have g := g.add (facts_enters ic27) (con27 g)
  have g := g.add (facts_enters ic12) (con12 g rfl rfl)
  have g := g.add (facts_enters ic13) (con13 g rfl rfl rfl)
  have g := g.add (facts_enters ic33) (con33 g rfl)
  have g := g.add (facts_enters ic34) (con34 g rfl)
  have g := g.add (facts_enters ic21) (con21 g)
  have g := g.add (facts_enters ic16) (con16 g rfl)
  have g := g.add (facts_enters ic22) (con22 g rfl)
  have g := g.add (facts_enters ic23) (con23 g)
  have g := g.add (facts_enters ic42) (con42 g rfl rfl)
  have g := g.add (facts_enters ic43) (con43 g rfl)
  have g := g.add (facts_enters ic36) (con36 g rfl rfl)
  have g := g.add (facts_enters ic14) (con14 g rfl rfl rfl rfl rfl sortT hby)
  have g := g.add (facts_enters ic15) (con15 g rfl rfl rfl rfl rfl rfl)
  have g := g.add (facts_enters ic35) (con35 g rfl rfl)
  have g := g.add (facts_enters ic17) (con17 g rfl rfl rfl rfl sortT hby)
  have g := g.add (facts_enters ic18) (con18 g rfl rfl rfl rfl rfl rfl)
  have g := g.add (facts_enters ic19) (con19 g rfl rfl rfl sortT hby)
  have g := g.add (facts_enters ic20) (con20 g rfl rfl rfl rfl)
  have g := g.add (facts_enters ic10) (con10 g)
  have g := g.add (facts_enters ic24) (con24 g)
  have g := g.add (facts_enters ic11) (con11 g rfl rfl rfl rfl rfl)
  exact ⟨_, g, rfl, rfl, rfl, rfl, rfl, rfl, rfl, rfl, rfl, rfl, rfl, rfl, rfl, rfl⟩
theorem Try.own : ownKnob Try.prog.godebug = none := by kernel_rfl
theorem Try.laidOut : laidOutB Try.prog = true := by kernel_rfl
theorem rdTokD {n : Nat} : Reads Try.prog (n + 2) 43 TokD TokD.ok := by
  intro cs hs
  rw [shape_struct Try.underlying43] at hs
  obtain ⟨p0, q0, rfl, h0, hs⟩ := shapeFs_cons hs
  obtain ⟨p1, q1, rfl, h1, hs⟩ := shapeFs_cons hs
  obtain ⟨p2, q2, rfl, h2, hs⟩ := shapeFs_cons hs
  obtain ⟨p3, q3, rfl, h3, hs⟩ := shapeFs_cons hs
  obtain ⟨p4, q4, rfl, h4, hs⟩ := shapeFs_cons hs
  obtain ⟨p5, q5, rfl, h5, hs⟩ := shapeFs_cons hs
  cases shapeFs_nil hs
  obtain ⟨a0, _, rfl, k0⟩ := (Reads.str (by kernel_rfl)) _ h0
  obtain ⟨a1, _, rfl, k1⟩ := (Reads.str (by kernel_rfl)) _ h1
  obtain ⟨a2, _, rfl, k2⟩ := (Reads.str (by kernel_rfl)) _ h2
  obtain ⟨a3, _, rfl, k3⟩ := (Reads.int (by kernel_rfl)) _ h3
  obtain ⟨a4, _, rfl, k4⟩ := (Reads.int (by kernel_rfl)) _ h4
  obtain ⟨a5, _, rfl, k5⟩ := (Reads.int (by kernel_rfl)) _ h5
  exact ⟨⟨a0, a1, a2, a3, a4, a5⟩, by rw [aggT_struct Try.underlying43]; rfl, rfl, k0, k1, k2, k3, k4, k5⟩
theorem rdTListD {n : Nat} : Reads Try.prog (n + 4) 24 TListD TListD.ok := by
  intro cs hs
  rw [shape_struct Try.underlying24] at hs
  obtain ⟨p0, q0, rfl, h0, hs⟩ := shapeFs_cons hs
  obtain ⟨p1, q1, rfl, h1, hs⟩ := shapeFs_cons hs
  cases shapeFs_nil hs
  obtain ⟨a0, _, rfl, k0⟩ := (Reads.int (by kernel_rfl)) _ h0
  obtain ⟨a1, _, rfl, k1⟩ := (Reads.list (by kernel_rfl) (by kernel_rfl) (rdTokD)) _ h1
  exact ⟨⟨a0, a1⟩, by rw [aggT_struct Try.underlying24]; rfl, rfl, k0, k1⟩
theorem rdRdg {n : Nat} : Reads Try.prog (n + 2) 35 Rdg Rdg.ok := by
  intro cs hs
  rw [shape_struct Try.underlying35] at hs
  obtain ⟨p0, q0, rfl, h0, hs⟩ := shapeFs_cons hs
  obtain ⟨p1, q1, rfl, h1, hs⟩ := shapeFs_cons hs
  cases shapeFs_nil hs
  obtain ⟨a0, _, rfl, k0⟩ := (Reads.int (by kernel_rfl)) _ h0
  obtain ⟨a1, _, rfl, k1⟩ := (Reads.int (by kernel_rfl)) _ h1
  exact ⟨⟨a0, a1⟩, by rw [aggT_struct Try.underlying35]; rfl, rfl, k0, k1⟩
end Go.Proofs.Ytlkejejgaenjcaa
