/- The contracts of directories, together. -/
import Derived.Test.YtaagkdmmdgajjaaLaw45
import Derived.Test.YtaagkdmmdgajjaaSortK
namespace Go.Proofs.Ytaagkdmmdgajjaa
set_option linter.all false
open Go.Idl
set_option maxRecDepth 100000
theorem all45 : ∃ Φ : Specs, Idl.Good Try.prog Φ ∧ Φ 9 = some SEx ∧ Φ 8 = some SLng ∧ Φ 10 = some SVal ∧ Φ 11 = some SVal ∧ Φ 12 = some SLgl ∧ Φ 13 = some SPlay ∧
    Φ 14 = some SFind ∧ Φ 15 = some SFind ∧ Φ 16 = some SSin ∧ Φ 17 = some SSin ∧ Φ 18 = some SSam ∧ Φ 19 = some SSms ∧ Φ 21 = some SSmD ∧ Φ 20 = some SMrg ∧ Φ 22 = some SCall ∧ Φ 23 = some SHas ∧
    Φ 25 = none ∧ Φ 26 = none ∧ Φ 45 = none := by
  have g : Idl.Good Try.prog (fun _ => none) := good_none (by kernel_rfl)
  have g := g.add (facts_enters ic46) (con46 g)
  have g := g.add (facts_enters ic31) (con31 g rfl)
  have g := g.add (facts_enters ic54) (con54 g)
  have g := g.add (facts_enters ic47) (con47 g rfl)
  have g := g.add (facts_enters ic34) (con34 g rfl)
  have g := g.add (facts_enters ic57) (con57 g)
  have g := g.add (facts_enters ic58) (con58 g)
  have g := g.add (facts_enters ic51) (con51 g rfl)
  have g := g.add (facts_enters ic52) (con52 g rfl)
  have g := g.add (facts_enters ic50) (con50 g)
  have hcmp := con49 g rfl rfl rfl
  have g := g.add (facts_enters ic32) (con32 g rfl)
  have g := g.add (facts_enters ic35) (con35 g rfl)
  have g := g.add (facts_enters ic33) (con33 g)
  have g := g.add (facts_enters ic37) (con37 g)
  have g := g.add (facts_enters ic28) (con28 g rfl)
  have g := g.add (facts_enters ic14) (con14 g rfl rfl)
  have g := g.add (facts_enters ic36) (con36 g)
  have g := g.add (facts_enters ic15) (con15 g rfl)
  have g := g.add (facts_enters ic16) (con16 g rfl)
  have g := g.add (facts_enters ic17) (con17 g)
  have g := g.add (facts_enters ic10) (con10 g rfl rfl rfl)
  have g := g.add (facts_enters ic11) (con11 g rfl rfl rfl)
  have g := g.add (facts_enters ic29) (con29 g rfl rfl rfl rfl rfl rfl rfl sortT hcmp)
  have g := g.add (facts_enters ic20) (con20 g rfl rfl rfl rfl rfl rfl rfl sortT hcmp)
  have g := g.add (facts_enters ic38) (con38 g)
  have hsame := con18 g rfl
  have g := g.add (facts_enters ic18) hsame
  have g := g.add (facts_enters ic19) (con19 g hsame rfl)
  have g := g.add (facts_enters ic30) (con30 g)
  have g := g.add (facts_enters ic21) (con21 g rfl rfl)
  have g := g.add (facts_enters ic23) (con23 g rfl rfl rfl)
  have g := g.add (facts_enters ic22) (con22 g rfl rfl)
  have g := g.add (facts_enters ic8) (con8 g)
  have g := g.add (facts_enters ic12) (con12 g rfl)
  have g := g.add (facts_enters ic13) (con13 g rfl rfl)
  have g := g.add (facts_enters ic9) (con9 g rfl rfl rfl rfl rfl rfl rfl rfl rfl)
  exact ⟨_, g, rfl, rfl, rfl, rfl, rfl, rfl, rfl, rfl, rfl, rfl, rfl, rfl, rfl, rfl, rfl, rfl, rfl, rfl, rfl⟩
theorem Try.own : ownKnob Try.prog.godebug = none := by kernel_rfl
theorem Try.laidOut : laidOutB Try.prog = true := by kernel_rfl
theorem rdObjD {n : Nat} : Reads Try.prog (n + 3) 37 ObjD ObjD.ok := by
  intro cs hs
  rw [shape_struct Try.underlying37] at hs
  obtain ⟨p0, q0, rfl, h0, hs⟩ := shapeFs_cons hs
  obtain ⟨p1, q1, rfl, h1, hs⟩ := shapeFs_cons hs
  obtain ⟨p2, q2, rfl, h2, hs⟩ := shapeFs_cons hs
  obtain ⟨p3, q3, rfl, h3, hs⟩ := shapeFs_cons hs
  obtain ⟨p4, q4, rfl, h4, hs⟩ := shapeFs_cons hs
  obtain ⟨p5, q5, rfl, h5, hs⟩ := shapeFs_cons hs
  cases shapeFs_nil hs
  obtain ⟨a0, _, rfl, k0⟩ := (Reads.int (by kernel_rfl)) _ h0
  obtain ⟨a1, _, rfl, k1⟩ := (Reads.str (by kernel_rfl)) _ h1
  obtain ⟨a2, _, rfl, k2⟩ := (Reads.str (by kernel_rfl)) _ h2
  obtain ⟨a3, _, rfl, k3⟩ := (Reads.int (by kernel_rfl)) _ h3
  obtain ⟨a4, _, rfl, k4⟩ := (Reads.bool (by kernel_rfl)) _ h4
  obtain ⟨a5, _, rfl, k5⟩ := (Reads.list (e := 5) (by kernel_rfl) (by kernel_rfl) (Reads.kint (k := .u8) (by kernel_rfl))) _ h5
  exact ⟨⟨a0, a1, a2, a3, a4, a5⟩, by rw [aggT_struct Try.underlying37]; rfl, rfl, k0, k1, k2, k3, k4, k5⟩
theorem rdDirD {n : Nat} : Reads Try.prog (n + 5) 25 DirD DirD.ok := by
  intro cs hs
  rw [shape_struct Try.underlying25] at hs
  obtain ⟨p0, q0, rfl, h0, hs⟩ := shapeFs_cons hs
  obtain ⟨p1, q1, rfl, h1, hs⟩ := shapeFs_cons hs
  obtain ⟨p2, q2, rfl, h2, hs⟩ := shapeFs_cons hs
  obtain ⟨p3, q3, rfl, h3, hs⟩ := shapeFs_cons hs
  cases shapeFs_nil hs
  obtain ⟨a0, _, rfl, k0⟩ := (Reads.str (by kernel_rfl)) _ h0
  obtain ⟨a1, _, rfl, k1⟩ := (Reads.list (by kernel_rfl) (by kernel_rfl) (rdObjD)) _ h1
  obtain ⟨a2, _, rfl, k2⟩ := (Reads.list (e := 3) (by kernel_rfl) (by kernel_rfl) (Reads.int (by kernel_rfl))) _ h2
  obtain ⟨a3, _, rfl, k3⟩ := (Reads.int (by kernel_rfl)) _ h3
  exact ⟨⟨a0, a1, a2, a3⟩, by rw [aggT_struct Try.underlying25]; rfl, rfl, k0, k1, k2, k3⟩
theorem rdOpD {n : Nat} : Reads Try.prog (n + 5) 52 OpD OpD.ok := by
  intro cs hs
  rw [shape_struct Try.underlying52] at hs
  obtain ⟨p0, q0, rfl, h0, hs⟩ := shapeFs_cons hs
  obtain ⟨p1, q1, rfl, h1, hs⟩ := shapeFs_cons hs
  cases shapeFs_nil hs
  obtain ⟨a0, _, rfl, k0⟩ := (Reads.int (by kernel_rfl)) _ h0
  obtain ⟨a1, _, rfl, k1⟩ := (Reads.list (by kernel_rfl) (by kernel_rfl) (rdObjD)) _ h1
  exact ⟨⟨a0, a1⟩, by rw [aggT_struct Try.underlying52]; rfl, rfl, k0, k1⟩
end Go.Proofs.Ytaagkdmmdgajjaa
