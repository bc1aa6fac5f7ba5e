/- The contracts of readings, together. -/
import Derived.Test.YtdidgmhkgcblhaaSum20
namespace Go.Proofs.Ytdidgmhkgcblhaa
set_option linter.all false
open Go.Idl
theorem all20 : ∃ Φ : Specs, Idl.Good Try.prog Φ ∧ (Φ 10 = some SVal ∧ Φ 11 = some SVal ∧ Φ 12 = some STot ∧ Φ 13 = some STot ∧ Φ 15 = some SMin ∧ Φ 16 = some SMin ∧ Φ 17 = some SUse ∧ Φ 18 = some SUse) ∧
    (Φ 23 = some SMrg ∧ Φ 24 = some SEqfR ∧ Φ 19 = some SEqfI ∧ Φ 20 = some SEqfU ∧ Φ 22 = some SAsc ∧ Φ 21 = some SBt) ∧
    Φ 14 = some (FT fun (t : List Rdg × Unit) => if t.1.length ≤ 1000000000 then some (shortS t.1) else none) ∧ Φ 9 = some Aw := by
  have g : Idl.Good Try.prog (fun _ => none) := good_none (by kernel_rfl)
  have g := g.add (facts_enters ic10) (con10 g)
  have g := g.add (facts_enters ic11) (con11 g)
  have g := g.add (facts_enters ic27) (con27 g)
  have g := g.add (facts_enters ic21) (con21 g)
  have g := g.add (facts_enters ic24) (con24 g)
  have g := g.add (facts_enters ic19) (con19 g)
  have g := g.add (facts_enters ic20) (con20 g)
  have g := g.add (facts_enters ic22) (con22 g)
  have g := g.add (facts_enters ic28) (con28 g rfl)
  have g := g.add (facts_enters ic12) (con12 g rfl rfl rfl)
  have g := g.add (facts_enters ic13) (con13 g rfl rfl)
  have g := g.add (facts_enters ic15) (con15 g rfl rfl rfl)
  have g := g.add (facts_enters ic16) (con16 g rfl rfl)
  have g := g.add (facts_enters ic17) (con17 g rfl)
  have g := g.add (facts_enters ic18) (con18 g rfl)
  have g := g.add (facts_enters ic23) (con23 g rfl)
  have g := g.add (facts_enters ic14) (con14 g)
  have g := g.add (facts_enters ic9) (con9 g rfl rfl rfl rfl rfl rfl rfl)
  exact ⟨_, g, ⟨rfl, rfl, rfl, rfl, rfl, rfl, rfl, rfl⟩, ⟨rfl, rfl, rfl, rfl, rfl, rfl⟩, rfl, rfl⟩
theorem Try.own : ownKnob Try.prog.godebug = none := by kernel_rfl
theorem Try.laidOut : laidOutB Try.prog = true := by kernel_rfl
theorem rdRdg {n : Nat} : Reads Try.prog (n + 2) 39 Rdg Rdg.ok := by
  intro cs hs
  rw [shape_struct Try.underlying39] at hs
  obtain ⟨p0, q0, rfl, h0, hs⟩ := shapeFs_cons hs
  obtain ⟨p1, q1, rfl, h1, hs⟩ := shapeFs_cons hs
  cases shapeFs_nil hs
  obtain ⟨a0, _, rfl, k0⟩ := (Reads.int (by kernel_rfl)) _ h0
  obtain ⟨a1, _, rfl, k1⟩ := (Reads.int (by kernel_rfl)) _ h1
  exact ⟨⟨a0, a1⟩, by rw [aggT_struct Try.underlying39]; rfl, rfl, k0, k1⟩
end Go.Proofs.Ytdidgmhkgcblhaa
