/- The contracts of two partners, together. -/
import Derived.Test.YtalhbhbkdfmhgaaTop25
import Derived.Test.YtalhbhbkdfmhgaaSortK
namespace Go.Proofs.Ytalhbhbkdfmhgaa
set_option linter.all false
open Go.Idl
set_option maxRecDepth 100000
theorem all25 : ∃ Φ : Specs, Idl.Good Try.prog Φ ∧ Φ 4 = some SNewP ∧ Φ 5 = some SDlt ∧ Φ 6 = some SBil ∧ Φ 7 = some SCrt ∧ Φ 8 = some SSyn ∧ Φ 9 = some SDpd ∧ Φ 10 = some SAgA ∧ Φ 11 = some SBld := by
  have g : Idl.Good Try.prog (fun _ => none) := good_none (by kernel_rfl)
  have g := g.add (facts_enters ic31) (con31 g)
  have g := g.add (facts_enters ic12) (con12 g rfl)
  have g := g.add (facts_enters ic78) (con78 g)
  have g := g.add (facts_enters ic70) (con70 g rfl)
  have g := g.add (facts_enters ic69) (con69 g)
  have g := g.add (facts_enters ic79) (con79 g)
  have g := g.add (facts_enters ic71) (con71 g rfl)
  have g := g.add (facts_enters ic35) (con35 g rfl)
  have g := g.add (facts_enters ic36) (con36 g)
  have g := g.add (facts_enters ic37) (con37 g)
  have g := g.add (facts_enters ic54) (con54 g rfl)
  have g := g.add (facts_enters ic38) (con38 g rfl)
  have g := g.add (facts_enters ic39) (con39 g rfl)
  have g := g.add (facts_enters ic15) (con15 g rfl rfl rfl rfl rfl)
  have g := g.add (facts_enters ic53) (con53 g rfl)
  have g := g.add (facts_enters ic60) (con60 g)
  have g := g.add (facts_enters ic61) (con61 g)
  have g := g.add (facts_enters ic62) (con62 g)
  have g := g.add (facts_enters ic47) (con47 g rfl rfl rfl rfl rfl)
  have g := g.add (facts_enters ic45) (con45 g rfl)
  have g := g.add (facts_enters ic65) (con65 g)
  have g := g.add (facts_enters ic51) (con51 g rfl)
  have g := g.add (facts_enters ic52) (con52 g)
  have g := g.add (facts_enters ic55) (con55 g)
  have g := g.add (facts_enters ic13) (con13 g rfl)
  have g := g.add (facts_enters ic41) (con41 g rfl)
  have g := g.add (facts_enters ic32) (con32 g rfl rfl rfl)
  have hcmp := con68 g rfl rfl rfl
  have g := g.add (facts_enters ic42) (con42 g rfl rfl rfl rfl rfl rfl rfl sortT hcmp)
  have g := g.add (facts_enters ic16) (con16 g)
  have g := g.add (facts_enters ic46) (con46 g)
  have g := g.add (facts_enters ic33) (con33 g rfl)
  have g := g.add (facts_enters ic34) (con34 g rfl rfl)
  have g := g.add (facts_enters ic14) (con14 g rfl rfl rfl rfl)
  have g := g.add (facts_enters ic4) (con4 g rfl rfl)
  have g := g.add (facts_enters ic49) (con49 g)
  have g := g.add (facts_enters ic28) (con28 g rfl)
  have g := g.add (facts_enters ic48) (con48 g)
  have g := g.add (facts_enters ic29) (con29 g rfl)
  have g := g.add (facts_enters ic10) (con10 g rfl rfl rfl rfl)
  have g := g.add (facts_enters ic19) (con19 g)
  have g := g.add (facts_enters ic26) (con26 g rfl rfl rfl rfl rfl)
  have g := g.add (facts_enters ic25) (con25 g rfl rfl rfl rfl rfl rfl)
  have g := g.add (facts_enters ic40) (con40 g)
  have g := g.add (facts_enters ic43) (con43 g rfl rfl rfl)
  have g := g.add (facts_enters ic72) (con72 g)
  have g := g.add (facts_enters ic59) (con59 g rfl rfl rfl rfl)
  have g := g.add (facts_enters ic44) (con44 g rfl)
  have g := g.add (facts_enters ic8) (con8 g rfl rfl rfl rfl rfl rfl rfl rfl rfl rfl)
  have g := g.add (facts_enters ic17) (con17 g rfl)
  have g := g.add (facts_enters ic20) (con20 g)
  have g := g.add (facts_enters ic7) (con7 g rfl rfl rfl)
  have g := g.add (facts_enters ic6) (con6 g rfl rfl rfl rfl rfl rfl)
  have g := g.add (facts_enters ic66) (con66 g)
  have g := g.add (facts_enters ic74) (con74 g)
  have g := g.add (facts_enters ic73) (con73 g rfl)
  have g := g.add (facts_enters ic63) (con63 g rfl rfl rfl rfl)
  have g := g.add (facts_enters ic64) (con64 g)
  have g := g.add (facts_enters ic50) (con50 g rfl rfl rfl rfl)
  have g := g.add (facts_enters ic30) (con30 g rfl)
  have g := g.add (facts_enters ic5) (con5 g)
  have g := g.add (facts_enters ic11) (con11 g rfl)
  have g := g.add (facts_enters ic9) (con9 g rfl rfl rfl rfl)
  exact ⟨_, g, rfl, rfl, rfl, rfl, rfl, rfl, rfl, rfl⟩
theorem Try.own : ownKnob Try.prog.godebug = none := by kernel_rfl
theorem Try.laidOut : laidOutB Try.prog = true := by kernel_rfl
theorem rdDealD {n : Nat} : Reads Try.prog (n + 2) 36 DealD DealD.ok := by
  intro cs hs
  rw [shape_struct Try.underlying36] at hs
  obtain ⟨p0, q0, rfl, h0, hs⟩ := shapeFs_cons hs
  obtain ⟨p1, q1, rfl, h1, hs⟩ := shapeFs_cons hs
  obtain ⟨p2, q2, rfl, h2, hs⟩ := shapeFs_cons hs
  obtain ⟨p3, q3, rfl, h3, hs⟩ := shapeFs_cons hs
  obtain ⟨p4, q4, rfl, h4, hs⟩ := shapeFs_cons hs
  cases shapeFs_nil hs
  obtain ⟨a0, _, rfl, k0⟩ := (Reads.bool (by kernel_rfl)) _ h0
  obtain ⟨a1, _, rfl, k1⟩ := (Reads.kint (k := .u16) (by kernel_rfl)) _ h1
  obtain ⟨a2, _, rfl, k2⟩ := (Reads.kint (k := .u16) (by kernel_rfl)) _ h2
  obtain ⟨a3, _, rfl, k3⟩ := (Reads.kint (k := .u16) (by kernel_rfl)) _ h3
  obtain ⟨a4, _, rfl, k4⟩ := (Reads.bool (by kernel_rfl)) _ h4
  exact ⟨⟨a0, a1, a2, a3, a4⟩, by rw [aggT_struct Try.underlying36]; rfl, rfl, k0, k1, k2, k3, k4⟩
end Go.Proofs.Ytalhbhbkdfmhgaa
