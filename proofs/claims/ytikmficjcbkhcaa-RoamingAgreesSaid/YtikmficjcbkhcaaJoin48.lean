/- The contracts of roaming, together. -/
import Derived.Test.YtikmficjcbkhcaaRoam48t
import Derived.Test.YtikmficjcbkhcaaSortK
namespace Go.Proofs.Ytikmficjcbkhcaa
set_option linter.all false
open Go.Idl
set_option maxRecDepth 100000
theorem cur_ok {l : List CdrD} (h : ∀ c ∈ l, CdrD.ok c) : okCur l = true := by
  rw [okCur, List.all_eq_true]
  intro c hc
  have := (h c hc).2.2.2.2.2.2.2.2.2.1
  exact decide_eq_true this
theorem all48 : ∃ Φ : Specs, Idl.Good Try.prog Φ ∧ Φ 7 = some SEx ∧ Φ 6 = some SSml ∧ Φ 8 = some SVlP ∧ Φ 9 = some SVlP ∧ Φ 10 = some SNewP ∧ Φ 11 = some SNewP ∧ Φ 12 = some SSmP ∧ Φ 13 = some SAgA ∧ Φ 14 = some SAgr ∧ Φ 18 = some SAct := by
  have g : Idl.Good Try.prog (fun _ => none) := good_none (by kernel_rfl)
  have g := g.add (facts_enters ic73) (con73 g)
  have g := g.add (facts_enters ic46) (con46 g)
  have g := g.add (facts_enters ic50) (con50 g rfl)
  have g := g.add (facts_enters ic19) (con19 g rfl)
  have g := g.add (facts_enters ic23) (con23 g rfl)
  have g := g.add (facts_enters ic91) (con91 g)
  have g := g.add (facts_enters ic86) (con86 g rfl)
  have g := g.add (facts_enters ic85) (con85 g)
  have g := g.add (facts_enters ic92) (con92 g)
  have g := g.add (facts_enters ic87) (con87 g rfl)
  have g := g.add (facts_enters ic60) (con60 g rfl)
  have g := g.add (facts_enters ic61) (con61 g)
  have g := g.add (facts_enters ic74) (con74 g)
  have g := g.add (facts_enters ic62) (con62 g)
  have g := g.add (facts_enters ic75) (con75 g)
  have g := g.add (facts_enters ic77) (con77 g rfl)
  have g := g.add (facts_enters ic76) (con76 g rfl)
  have g := g.add (facts_enters ic63) (con63 g rfl)
  have g := g.add (facts_enters ic64) (con64 g rfl)
  have g := g.add (facts_enters ic35) (con35 g rfl rfl rfl rfl rfl)
  have g := g.add (facts_enters ic53) (con53 g rfl rfl rfl rfl)
  have g := g.add (facts_enters ic49) (con49 g rfl)
  have g := g.add (facts_enters ic55) (con55 g rfl)
  have g := g.add (facts_enters ic70) (con70 g)
  have g := g.add (facts_enters ic71) (con71 g)
  have g := g.add (facts_enters ic72) (con72 g)
  have g := g.add (facts_enters ic45) (con45 g rfl rfl rfl rfl rfl)
  have g := g.add (facts_enters ic47) (con47 g rfl)
  have g := g.add (facts_enters ic51) (con51 g rfl)
  have g := g.add (facts_enters ic48) (con48 g)
  have g := g.add (facts_enters ic78) (con78 g)
  have g := g.add (facts_enters ic27) (con27 g rfl)
  have g := g.add (facts_enters ic52) (con52 g)
  have g := g.add (facts_enters ic66) (con66 g rfl)
  have g := g.add (facts_enters ic20) (con20 g rfl rfl rfl)
  have g := g.add (facts_enters ic24) (con24 g rfl rfl rfl)
  have hcmp := con84 g rfl rfl rfl
  have g := g.add (facts_enters ic67) (con67 g rfl rfl rfl rfl rfl rfl rfl sortT hcmp)
  have g := g.add (facts_enters ic36) (con36 g)
  have g := g.add (facts_enters ic44) (con44 g)
  have g := g.add (facts_enters ic54) (con54 g)
  have g := g.add (facts_enters ic56) (con56 g)
  have g := g.add (facts_enters ic21) (con21 g rfl)
  have g := g.add (facts_enters ic25) (con25 g rfl rfl)
  have g := g.add (facts_enters ic22) (con22 g rfl rfl)
  have g := g.add (facts_enters ic26) (con26 g rfl rfl rfl)
  have g := g.add (facts_enters ic8) (con8 g rfl rfl rfl rfl)
  have g := g.add (facts_enters ic9) (con9 g rfl rfl rfl rfl)
  have g := g.add (facts_enters ic28) (con28 g rfl)
  have g := g.add (facts_enters ic10) (con10 g rfl rfl)
  have g := g.add (facts_enters ic11) (con11 g rfl rfl)
  have g := g.add (facts_enters ic30) (con30 g)
  have g := g.add (facts_enters ic58) (con58 g)
  have g := g.add (facts_enters ic32) (con32 g rfl)
  have g := g.add (facts_enters ic29) (con29 g)
  have g := g.add (facts_enters ic12) (con12 g rfl rfl)
  have g := g.add (facts_enters ic57) (con57 g)
  have g := g.add (facts_enters ic59) (con59 g)
  have g := g.add (facts_enters ic33) (con33 g rfl)
  have g := g.add (facts_enters ic34) (con34 g rfl rfl rfl rfl)
  have g := g.add (facts_enters ic14) (con14 g rfl)
  have g := g.add (facts_enters ic13) (con13 g rfl rfl rfl rfl)
  have g := g.add (facts_enters ic39) (con39 g)
  have g := g.add (facts_enters ic18) (con18 g rfl rfl rfl rfl rfl)
  have g := g.add (facts_enters ic15) (con15 g rfl rfl rfl rfl rfl)
  have g := g.add (facts_enters ic6) (con6 g)
  have g := g.add (facts_enters ic16) (con16 g)
  have g := g.add (facts_enters ic65) (con65 g)
  have g := g.add (facts_enters ic68) (con68 g rfl rfl rfl)
  have g := g.add (facts_enters ic69) (con69 g)
  have g := g.add (facts_enters ic17) (con17 g rfl rfl rfl rfl rfl rfl rfl rfl rfl rfl)
  have g := g.add (facts_enters ic7) (con7 g rfl rfl rfl rfl rfl rfl rfl)
  exact ⟨_, g, rfl, rfl, rfl, rfl, rfl, rfl, rfl, rfl, rfl, rfl⟩
theorem Try.own : ownKnob Try.prog.godebug = none := by kernel_rfl
theorem Try.laidOut : laidOutB Try.prog = true := by kernel_rfl
theorem rdItemD {n : Nat} : Reads Try.prog (n + 2) 87 ItemD ItemD.ok := by
  intro cs hs
  rw [shape_struct Try.underlying87] at hs
  obtain ⟨p0, q0, rfl, h0, hs⟩ := shapeFs_cons hs
  obtain ⟨p1, q1, rfl, h1, hs⟩ := shapeFs_cons hs
  obtain ⟨p2, q2, rfl, h2, hs⟩ := shapeFs_cons hs
  obtain ⟨p3, q3, rfl, h3, hs⟩ := shapeFs_cons hs
  obtain ⟨p4, q4, rfl, h4, hs⟩ := shapeFs_cons hs
  obtain ⟨p5, q5, rfl, h5, hs⟩ := shapeFs_cons hs
  obtain ⟨p6, q6, rfl, h6, hs⟩ := shapeFs_cons hs
  cases shapeFs_nil hs
  obtain ⟨a0, _, rfl, k0⟩ := (Reads.int (by kernel_rfl)) _ h0
  obtain ⟨a1, _, rfl, k1⟩ := (Reads.int (by kernel_rfl)) _ h1
  obtain ⟨a2, _, rfl, k2⟩ := (Reads.int (by kernel_rfl)) _ h2
  obtain ⟨a3, _, rfl, k3⟩ := (Reads.int (by kernel_rfl)) _ h3
  obtain ⟨a4, _, rfl, k4⟩ := (Reads.int (by kernel_rfl)) _ h4
  obtain ⟨a5, _, rfl, k5⟩ := (Reads.int (by kernel_rfl)) _ h5
  obtain ⟨a6, _, rfl, k6⟩ := (Reads.int (by kernel_rfl)) _ h6
  exact ⟨⟨a0, a1, a2, a3, a4, a5, a6⟩, by rw [aggT_struct Try.underlying87]; rfl, rfl, k0, k1, k2, k3, k4, k5, k6⟩
theorem rdCdrD {n : Nat} : Reads Try.prog (n + 4) 40 CdrD CdrD.ok := by
  intro cs hs
  rw [shape_struct Try.underlying40] at hs
  obtain ⟨p0, q0, rfl, h0, hs⟩ := shapeFs_cons hs
  obtain ⟨p1, q1, rfl, h1, hs⟩ := shapeFs_cons hs
  obtain ⟨p2, q2, rfl, h2, hs⟩ := shapeFs_cons hs
  obtain ⟨p3, q3, rfl, h3, hs⟩ := shapeFs_cons hs
  obtain ⟨p4, q4, rfl, h4, hs⟩ := shapeFs_cons hs
  obtain ⟨p5, q5, rfl, h5, hs⟩ := shapeFs_cons hs
  obtain ⟨p6, q6, rfl, h6, hs⟩ := shapeFs_cons hs
  obtain ⟨p7, q7, rfl, h7, hs⟩ := shapeFs_cons hs
  obtain ⟨p8, q8, rfl, h8, hs⟩ := shapeFs_cons hs
  obtain ⟨p9, q9, rfl, h9, hs⟩ := shapeFs_cons hs
  obtain ⟨p10, q10, rfl, h10, hs⟩ := shapeFs_cons hs
  obtain ⟨p11, q11, rfl, h11, hs⟩ := shapeFs_cons hs
  obtain ⟨p12, q12, rfl, h12, hs⟩ := shapeFs_cons hs
  obtain ⟨p13, q13, rfl, h13, hs⟩ := shapeFs_cons hs
  cases shapeFs_nil hs
  obtain ⟨a0, _, rfl, k0⟩ := (Reads.str (by kernel_rfl)) _ h0
  obtain ⟨a1, _, rfl, k1⟩ := (Reads.str (by kernel_rfl)) _ h1
  obtain ⟨a2, _, rfl, k2⟩ := (Reads.str (by kernel_rfl)) _ h2
  obtain ⟨a3, _, rfl, k3⟩ := (Reads.str (by kernel_rfl)) _ h3
  obtain ⟨a4, _, rfl, k4⟩ := (Reads.int (by kernel_rfl)) _ h4
  obtain ⟨a5, _, rfl, k5⟩ := (Reads.int (by kernel_rfl)) _ h5
  obtain ⟨a6, _, rfl, k6⟩ := (Reads.int (by kernel_rfl)) _ h6
  obtain ⟨a7, _, rfl, k7⟩ := (Reads.int (by kernel_rfl)) _ h7
  obtain ⟨a8, _, rfl, k8⟩ := (Reads.str (by kernel_rfl)) _ h8
  obtain ⟨a9, _, rfl, k9⟩ := (Reads.str (by kernel_rfl)) _ h9
  obtain ⟨a10, _, rfl, k10⟩ := (Reads.list (by kernel_rfl) (by kernel_rfl) (rdItemD)) _ h10
  obtain ⟨a11, _, rfl, k11⟩ := (Reads.int (by kernel_rfl)) _ h11
  obtain ⟨a12, _, rfl, k12⟩ := (Reads.bool (by kernel_rfl)) _ h12
  obtain ⟨a13, _, rfl, k13⟩ := (Reads.str (by kernel_rfl)) _ h13
  exact ⟨⟨a0, a1, a2, a3, a4, a5, a6, a7, a8, a9, a10, a11, a12, a13⟩, by rw [aggT_struct Try.underlying40]; rfl, rfl, k0, k1, k2, k3, k4, k5, k6, k7, k8, k9, k10, k11, k12, k13⟩
theorem rdDisp {n : Nat} : Reads Try.prog (n + 2) 55 Disp Disp.ok := by
  intro cs hs
  rw [shape_struct Try.underlying55] at hs
  obtain ⟨p0, q0, rfl, h0, hs⟩ := shapeFs_cons hs
  obtain ⟨p1, q1, rfl, h1, hs⟩ := shapeFs_cons hs
  obtain ⟨p2, q2, rfl, h2, hs⟩ := shapeFs_cons hs
  obtain ⟨p3, q3, rfl, h3, hs⟩ := shapeFs_cons hs
  obtain ⟨p4, q4, rfl, h4, hs⟩ := shapeFs_cons hs
  obtain ⟨p5, q5, rfl, h5, hs⟩ := shapeFs_cons hs
  cases shapeFs_nil hs
  obtain ⟨a0, _, rfl, k0⟩ := (Reads.str (by kernel_rfl)) _ h0
  obtain ⟨a1, _, rfl, k1⟩ := (Reads.str (by kernel_rfl)) _ h1
  obtain ⟨a2, _, rfl, k2⟩ := (Reads.int (by kernel_rfl)) _ h2
  obtain ⟨a3, _, rfl, k3⟩ := (Reads.int (by kernel_rfl)) _ h3
  obtain ⟨a4, _, rfl, k4⟩ := (Reads.int (by kernel_rfl)) _ h4
  obtain ⟨a5, _, rfl, k5⟩ := (Reads.int (by kernel_rfl)) _ h5
  exact ⟨⟨a0, a1, a2, a3, a4, a5⟩, by rw [aggT_struct Try.underlying55]; rfl, rfl, k0, k1, k2, k3, k4, k5⟩
theorem rdObjD {n : Nat} : Reads Try.prog (n + 3) 43 ObjD ObjD.ok := by
  intro cs hs
  rw [shape_struct Try.underlying43] at hs
  obtain ⟨p0, q0, rfl, h0, hs⟩ := shapeFs_cons hs
  obtain ⟨p1, q1, rfl, h1, hs⟩ := shapeFs_cons hs
  obtain ⟨p2, q2, rfl, h2, hs⟩ := shapeFs_cons hs
  obtain ⟨p3, q3, rfl, h3, hs⟩ := shapeFs_cons hs
  obtain ⟨p4, q4, rfl, h4, hs⟩ := shapeFs_cons hs
  obtain ⟨p5, q5, rfl, h5, hs⟩ := shapeFs_cons hs
  cases shapeFs_nil hs
  obtain ⟨a0, _, rfl, k0⟩ := (Reads.int (by kernel_rfl)) _ h0
  obtain ⟨a1, _, rfl, k1⟩ := (Reads.str (by kernel_rfl)) _ h1
  obtain ⟨a2, _, rfl, k2⟩ := (Reads.str (by kernel_rfl)) _ h2
  obtain ⟨a3, _, rfl, k3⟩ := (Reads.int (by kernel_rfl)) _ h3
  obtain ⟨a4, _, rfl, k4⟩ := (Reads.bool (by kernel_rfl)) _ h4
  obtain ⟨a5, _, rfl, k5⟩ := (Reads.list (e := 5) (by kernel_rfl) (by kernel_rfl) (Reads.kint (k := .u8) (by kernel_rfl))) _ h5
  exact ⟨⟨a0, a1, a2, a3, a4, a5⟩, by rw [aggT_struct Try.underlying43]; rfl, rfl, k0, k1, k2, k3, k4, k5⟩
theorem rdDirD {n : Nat} : Reads Try.prog (n + 5) 25 DirD DirD.ok := by
  intro cs hs
  rw [shape_struct Try.underlying25] at hs
  obtain ⟨p0, q0, rfl, h0, hs⟩ := shapeFs_cons hs
  obtain ⟨p1, q1, rfl, h1, hs⟩ := shapeFs_cons hs
  obtain ⟨p2, q2, rfl, h2, hs⟩ := shapeFs_cons hs
  obtain ⟨p3, q3, rfl, h3, hs⟩ := shapeFs_cons hs
  cases shapeFs_nil hs
  obtain ⟨a0, _, rfl, k0⟩ := (Reads.str (by kernel_rfl)) _ h0
  obtain ⟨a1, _, rfl, k1⟩ := (Reads.list (by kernel_rfl) (by kernel_rfl) (rdObjD)) _ h1
  obtain ⟨a2, _, rfl, k2⟩ := (Reads.list (e := 3) (by kernel_rfl) (by kernel_rfl) (Reads.int (by kernel_rfl))) _ h2
  obtain ⟨a3, _, rfl, k3⟩ := (Reads.int (by kernel_rfl)) _ h3
  exact ⟨⟨a0, a1, a2, a3⟩, by rw [aggT_struct Try.underlying25]; rfl, rfl, k0, k1, k2, k3⟩
theorem rdPartyD {n : Nat} : Reads Try.prog (n + 6) 29 PartyD PartyD.ok := by
  intro cs hs
  rw [shape_struct Try.underlying29] at hs
  obtain ⟨p0, q0, rfl, h0, hs⟩ := shapeFs_cons hs
  obtain ⟨p1, q1, rfl, h1, hs⟩ := shapeFs_cons hs
  obtain ⟨p2, q2, rfl, h2, hs⟩ := shapeFs_cons hs
  obtain ⟨p3, q3, rfl, h3, hs⟩ := shapeFs_cons hs
  cases shapeFs_nil hs
  obtain ⟨a0, _, rfl, k0⟩ := (Reads.str (by kernel_rfl)) _ h0
  obtain ⟨a1, _, rfl, k1⟩ := (rdDirD) _ h1
  obtain ⟨a2, _, rfl, k2⟩ := (Reads.list (by kernel_rfl) (by kernel_rfl) (rdCdrD)) _ h2
  obtain ⟨a3, _, rfl, k3⟩ := (Reads.list (by kernel_rfl) (by kernel_rfl) (rdDisp)) _ h3
  exact ⟨⟨a0, a1, a2, a3⟩, by rw [aggT_struct Try.underlying29]; rfl, rfl, k0, k1, k2, k3⟩
end Go.Proofs.Ytikmficjcbkhcaa
