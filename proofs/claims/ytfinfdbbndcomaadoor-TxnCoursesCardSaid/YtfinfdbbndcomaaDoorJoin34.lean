/- All contracts of transactions; the chapter's examples, run. -/
import Derived.Test.YtfinfdbbndcomaaDoorLaw34
import Derived.Test.YtfinfdbbndcomaaDoorItoa34
import Derived.ProofKit
import Derived.LaidMore
import Derived.LaidSub
import Derived.OpenShut
import Derived.MakeChecks
import Derived.Stop.Joined
namespace Go.Proofs.YtfinfdbbndcomaaDoor
set_option linter.all false
open Go.Idl
theorem good0 : Idl.Good Tryd.prog (fun _ => none) := good_none (by kernel_rfl)
theorem cons34 : Contract Tryd.prog 10 STxn ∧ Contract Tryd.prog 11 STxn ∧ Contract Tryd.prog 12 SBeg ∧ Contract Tryd.prog 13 SBeg ∧ Contract Tryd.prog 16 SUpd ∧ Contract Tryd.prog 17 SUpd ∧ Contract Tryd.prog 18 SEnd ∧ Contract Tryd.prog 19 SEnd ∧ Contract Tryd.prog 14 SSame ∧ Contract Tryd.prog 15 SEv := by
  have g := good0
  have g := g.add (by kernel_rfl) con25
  have g := g.add (facts_enters ic41) (con41 g)
  have g := g.add (facts_enters ic36) (con36 g)
  have g := g.add (facts_enters ic37) (con37 g rfl)
  have g := g.add (facts_enters ic21) (con21 g rfl)
  have g := g.add (facts_enters ic23) (con23 g rfl)
  have g := g.add (facts_enters ic31) (con31 g)
  have g := g.add (facts_enters ic43) (con43 g)
  have g := g.add (facts_enters ic32) (con32 g)
  have g := g.add (facts_enters ic40) (con40 g rfl rfl)
  have g := g.add (facts_enters ic33) (con33 g rfl)
  have g := g.add (facts_enters ic15) (con15 g rfl rfl rfl rfl)
  have g := g.add (facts_enters ic39) (con39 g)
  have g := g.add (facts_enters ic30) (con30 g rfl)
  have g := g.add (facts_enters ic22) (con22 g)
  have g := g.add (facts_enters ic24) (con24 g)
  have g := g.add (facts_enters ic10) (con10 g rfl rfl)
  have g := g.add (facts_enters ic11) (con11 g rfl rfl)
  have g := g.add (facts_enters ic26) (con26 g rfl)
  have g := g.add (facts_enters ic29) (con29 g rfl)
  have g := g.add (facts_enters ic28) (con28 g)
  have g := g.add (facts_enters ic34) (con34 g rfl rfl rfl)
  have g := g.add (facts_enters ic35) (con35 g rfl rfl rfl)
  exact ⟨con10 g rfl rfl, con11 g rfl rfl, con12 g rfl rfl rfl rfl rfl, con13 g rfl rfl rfl rfl, con16 g rfl rfl, con17 g rfl, con18 g rfl rfl, con19 g rfl, con14 g rfl, con15 g rfl rfl rfl rfl⟩
def base34 : Specs := add (add (add (add (fun _ => none) 10 STxn) 12 SBeg) 16 SUpd) 18 SEnd
theorem goodB34 : Idl.Good Tryd.prog base34 := (((good0.add (facts_enters ic10) cons34.1).add (facts_enters ic12) cons34.2.2.1).add (facts_enters ic16) cons34.2.2.2.2.1).add (facts_enters ic18) cons34.2.2.2.2.2.2.1
def fns : List Nat := [9, 20]
theorem fns_ok : fns.all (fnOk Tryd.prog) = true := by kernel_rfl
theorem awake_run : runFn Tryd.prog (Runs Tryd.prog fns base34 1000 3) 1000 9 [] = some (.sc (.bool true)) := by kernel_rfl
theorem conAw : Contract Tryd.prog 9 (FT fun (_ : Unit) => some true) := aw_of (runFn_contract (Runs_good goodB34 fns_ok 1000 3) (List.all_eq_true.1 fns_ok _ (by decide)) 1000) awake_run
theorem all34 : ∃ Φ : Specs, Idl.Good Tryd.prog Φ ∧ Φ 8 = some SShortT ∧ Φ 9 = some Aw ∧ Φ 10 = some STxn ∧ Φ 11 = some STxn ∧ Φ 12 = some SBeg ∧ Φ 13 = some SBeg ∧ Φ 16 = some SUpd ∧ Φ 17 = some SUpd ∧ Φ 18 = some SEnd ∧ Φ 19 = some SEnd ∧ Φ 14 = some SSame ∧ Φ 15 = some SEv := by
  obtain ⟨c1, c2, c3, c4, c5, c6, c7, c8, c9, c10⟩ := cons34
  have g := good0
  have g := g.add (facts_enters ic8) (con8 g)
  have g := g.add (facts_enters ic9) conAw
  have g := g.add (facts_enters ic10) c1
  have g := g.add (facts_enters ic11) c2
  have g := g.add (facts_enters ic12) c3
  have g := g.add (facts_enters ic13) c4
  have g := g.add (facts_enters ic16) c5
  have g := g.add (facts_enters ic17) c6
  have g := g.add (facts_enters ic18) c7
  have g := g.add (facts_enters ic19) c8
  have g := g.add (facts_enters ic14) c9
  have g := g.add (facts_enters ic15) c10
  exact ⟨_, g, rfl, rfl, rfl, rfl, rfl, rfl, rfl, rfl, rfl, rfl, rfl, rfl⟩
theorem C3 : Contract Tryd.prog 3 (FT fun (_ : TxnD × Unit) => some true) := by
  obtain ⟨Φ, g, h1, h2, h3, h4, h5, h6, h7, h8, h9, h10, h11, h12⟩ := all34
  exact con3 g h1 h2 h3 h4
theorem C4 : Contract Tryd.prog 4 (FT fun (_ : StartD × Unit) => some true) := by
  obtain ⟨Φ, g, h1, h2, h3, h4, h5, h6, h7, h8, h9, h10, h11, h12⟩ := all34
  exact con4 g h2 h3 h5 h6 h11 h12
theorem C5 : Contract Tryd.prog 5 (FT fun (_ : ReportD × Unit) => some true) := by
  obtain ⟨Φ, g, h1, h2, h3, h4, h5, h6, h7, h8, h9, h10, h11, h12⟩ := all34
  exact con5 g h1 h2 h3 h7 h8 h11 h12
theorem C6 : Contract Tryd.prog 6 (FT fun (_ : ReportD × Unit) => some true) := by
  obtain ⟨Φ, g, h1, h2, h3, h4, h5, h6, h7, h8, h9, h10, h11, h12⟩ := all34
  exact con6 g h1 h2 h3 h9 h10 h11 h12
theorem Tryd.own : ownKnob Tryd.prog.godebug = none := by kernel_rfl
theorem Tryd.laidOut : laidOutB Tryd.prog = true := by kernel_rfl
theorem rdRdg {n : Nat} : Reads Tryd.prog (n + 2) 23 Rdg Rdg.ok := by
  intro cs hs
  rw [shape_struct Tryd.underlying23] at hs
  obtain ⟨p0, q0, rfl, h0, hs⟩ := shapeFs_cons hs
  obtain ⟨p1, q1, rfl, h1, hs⟩ := shapeFs_cons hs
  cases shapeFs_nil hs
  obtain ⟨a0, _, rfl, k0⟩ := (Reads.int (by kernel_rfl)) _ h0
  obtain ⟨a1, _, rfl, k1⟩ := (Reads.int (by kernel_rfl)) _ h1
  exact ⟨⟨a0, a1⟩, by rw [aggT_struct Tryd.underlying23]; rfl, rfl, k0, k1⟩
theorem rdTxnD {n : Nat} : Reads Tryd.prog (n + 3) 25 TxnD TxnD.ok := by
  intro cs hs
  rw [shape_struct Tryd.underlying25] at hs
  obtain ⟨p0, q0, rfl, h0, hs⟩ := shapeFs_cons hs
  obtain ⟨p1, q1, rfl, h1, hs⟩ := shapeFs_cons hs
  obtain ⟨p2, q2, rfl, h2, hs⟩ := shapeFs_cons hs
  obtain ⟨p3, q3, rfl, h3, hs⟩ := shapeFs_cons hs
  obtain ⟨p4, q4, rfl, h4, hs⟩ := shapeFs_cons hs
  obtain ⟨p5, q5, rfl, h5, hs⟩ := shapeFs_cons hs
  obtain ⟨p6, q6, rfl, h6, hs⟩ := shapeFs_cons hs
  obtain ⟨p7, q7, rfl, h7, hs⟩ := shapeFs_cons hs
  cases shapeFs_nil hs
  obtain ⟨a0, _, rfl, k0⟩ := (Reads.str (by kernel_rfl)) _ h0
  obtain ⟨a1, _, rfl, k1⟩ := (Reads.int (by kernel_rfl)) _ h1
  obtain ⟨a2, _, rfl, k2⟩ := (Reads.str (by kernel_rfl)) _ h2
  obtain ⟨a3, _, rfl, k3⟩ := (Reads.str (by kernel_rfl)) _ h3
  obtain ⟨a4, _, rfl, k4⟩ := (Reads.int (by kernel_rfl)) _ h4
  obtain ⟨a5, _, rfl, k5⟩ := (Reads.int (by kernel_rfl)) _ h5
  obtain ⟨a6, _, rfl, k6⟩ := (Reads.bool (by kernel_rfl)) _ h6
  obtain ⟨a7, _, rfl, k7⟩ := (rdRdg) _ h7
  exact ⟨⟨a0, a1, a2, a3, a4, a5, a6, a7⟩, by rw [aggT_struct Tryd.underlying25]; rfl, rfl, k0, k1, k2, k3, k4, k5, k6, k7⟩
theorem rdTokD {n : Nat} : Reads Tryd.prog (n + 2) 31 TokD TokD.ok := by
  intro cs hs
  rw [shape_struct Tryd.underlying31] at hs
  obtain ⟨p0, q0, rfl, h0, hs⟩ := shapeFs_cons hs
  obtain ⟨p1, q1, rfl, h1, hs⟩ := shapeFs_cons hs
  obtain ⟨p2, q2, rfl, h2, hs⟩ := shapeFs_cons hs
  obtain ⟨p3, q3, rfl, h3, hs⟩ := shapeFs_cons hs
  obtain ⟨p4, q4, rfl, h4, hs⟩ := shapeFs_cons hs
  obtain ⟨p5, q5, rfl, h5, hs⟩ := shapeFs_cons hs
  cases shapeFs_nil hs
  obtain ⟨a0, _, rfl, k0⟩ := (Reads.str (by kernel_rfl)) _ h0
  obtain ⟨a1, _, rfl, k1⟩ := (Reads.str (by kernel_rfl)) _ h1
  obtain ⟨a2, _, rfl, k2⟩ := (Reads.str (by kernel_rfl)) _ h2
  obtain ⟨a3, _, rfl, k3⟩ := (Reads.int (by kernel_rfl)) _ h3
  obtain ⟨a4, _, rfl, k4⟩ := (Reads.int (by kernel_rfl)) _ h4
  obtain ⟨a5, _, rfl, k5⟩ := (Reads.int (by kernel_rfl)) _ h5
  exact ⟨⟨a0, a1, a2, a3, a4, a5⟩, by rw [aggT_struct Tryd.underlying31]; rfl, rfl, k0, k1, k2, k3, k4, k5⟩
theorem rdStartD {n : Nat} : Reads Tryd.prog (n + 3) 33 StartD StartD.ok := by
  intro cs hs
  rw [shape_struct Tryd.underlying33] at hs
  obtain ⟨p0, q0, rfl, h0, hs⟩ := shapeFs_cons hs
  obtain ⟨p1, q1, rfl, h1, hs⟩ := shapeFs_cons hs
  obtain ⟨p2, q2, rfl, h2, hs⟩ := shapeFs_cons hs
  obtain ⟨p3, q3, rfl, h3, hs⟩ := shapeFs_cons hs
  obtain ⟨p4, q4, rfl, h4, hs⟩ := shapeFs_cons hs
  obtain ⟨p5, q5, rfl, h5, hs⟩ := shapeFs_cons hs
  cases shapeFs_nil hs
  obtain ⟨a0, _, rfl, k0⟩ := (Reads.str (by kernel_rfl)) _ h0
  obtain ⟨a1, _, rfl, k1⟩ := (Reads.int (by kernel_rfl)) _ h1
  obtain ⟨a2, _, rfl, k2⟩ := (Reads.int (by kernel_rfl)) _ h2
  obtain ⟨a3, _, rfl, k3⟩ := (rdTokD) _ h3
  obtain ⟨a4, _, rfl, k4⟩ := (rdRdg) _ h4
  obtain ⟨a5, _, rfl, k5⟩ := (Reads.bool (by kernel_rfl)) _ h5
  exact ⟨⟨a0, a1, a2, a3, a4, a5⟩, by rw [aggT_struct Tryd.underlying33]; rfl, rfl, k0, k1, k2, k3, k4, k5⟩
theorem rdReportD {n : Nat} : Reads Tryd.prog (n + 4) 43 ReportD ReportD.ok := by
  intro cs hs
  rw [shape_struct Tryd.underlying43] at hs
  obtain ⟨p0, q0, rfl, h0, hs⟩ := shapeFs_cons hs
  obtain ⟨p1, q1, rfl, h1, hs⟩ := shapeFs_cons hs
  obtain ⟨p2, q2, rfl, h2, hs⟩ := shapeFs_cons hs
  obtain ⟨p3, q3, rfl, h3, hs⟩ := shapeFs_cons hs
  obtain ⟨p4, q4, rfl, h4, hs⟩ := shapeFs_cons hs
  cases shapeFs_nil hs
  obtain ⟨a0, _, rfl, k0⟩ := (rdTxnD) _ h0
  obtain ⟨a1, _, rfl, k1⟩ := (Reads.str (by kernel_rfl)) _ h1
  obtain ⟨a2, _, rfl, k2⟩ := (rdRdg) _ h2
  obtain ⟨a3, _, rfl, k3⟩ := (Reads.int (by kernel_rfl)) _ h3
  obtain ⟨a4, _, rfl, k4⟩ := (Reads.bool (by kernel_rfl)) _ h4
  exact ⟨⟨a0, a1, a2, a3, a4⟩, by rw [aggT_struct Tryd.underlying43]; rfl, rfl, k0, k1, k2, k3, k4⟩
/-! ### What is laid -/
def laid3 : List (String × DataW Unit) := [("math/bits.deBruijn32tab", Rows.laid_math_bits_deBruijn32tab), ("math/bits.deBruijn64tab", Rows.laid_math_bits_deBruijn64tab), ("internal/strconv.uint64pow10", Rows.laid_internal_strconv_uint64pow10)]
theorem door_met (os : Os) (args : Array Value) : laidMetH Tryd.prog laid3 ((World.doorLaid Tryd.prog 400 os).forCall (fun _ _ => 0) ⟨#[], args, []⟩).memory :=
  laidMetH_of_parts3 (fuel := 8) (laidMet_of_run' 8 (by kernel_rfl) (by kernel_rfl)) (by kernel_rfl) (by kernel_rfl)
theorem laid_of {W : World} (h : laidMetH Tryd.prog laid3 W) : Laid.ok W := by
  have h1 := laidMetH.filter (fun x => x.1 == "internal/strconv.uint64pow10") h
  rw [show laid3.filter (fun x => x.1 == "internal/strconv.uint64pow10") = [("internal/strconv.uint64pow10", Lib.tabData .u64 Lib.pow10Tab)] by kernel_rfl] at h1
  rw [MakeChecks.laidMetH_plain _ _ _ (by kernel_rfl)] at h1
  have h2 := Lib.tabIs_of_head (P := Tryd.prog) (g := 0) (t := 79) (e := 72) (n := 20) gPow (by kernel_rfl) (by kernel_rfl) (by kernel_rfl) (by kernel_rfl) (by kernel_rfl) h1
  unfold Lib.TabIs Lib.pow10Tab at h2
  rw [List.map_map] at h2
  exact h2
end Go.Proofs.YtfinfdbbndcomaaDoor
