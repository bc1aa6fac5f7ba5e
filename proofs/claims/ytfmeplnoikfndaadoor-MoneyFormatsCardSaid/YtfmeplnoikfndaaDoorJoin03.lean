/- Amounts: all contracts joined; what is laid; how the laws' arguments read. -/
import Derived.Test.YtfmeplnoikfndaaDoorMon03y
import Derived.Test.YtfmeplnoikfndaaDoorMon03v
import Derived.Test.YtfmeplnoikfndaaDoorMon03r
import Derived.Test.YtfmeplnoikfndaaDoorMon03s
import Derived.Test.YtfmeplnoikfndaaDoorMon03m
import Derived.ProofKit
import Derived.LaidMore
import Derived.LaidSub
import Derived.OpenShut
import Derived.MakeChecks
import Derived.Stop.Joined
import Derived.Stop.LaidErr
namespace Go.Proofs.YtfmeplnoikfndaaDoor
set_option linter.all false
open Go.Idl Go.RowKit
set_option maxRecDepth 100000
theorem all03 : ∃ Φ : Specs, Idl.Good Tryd.prog Φ ∧ Φ 11 = some SRound ∧ Φ 12 = some SRound ∧ Φ 14 = some SScale ∧ Φ 15 = some SScale ∧ Φ 16 = some SSum ∧ Φ 17 = some SSum ∧ Φ 18 = some SSplit ∧ Φ 19 = some SSplit ∧ Φ 20 = some SSame ∧ Φ 21 = some SFmt ∧ Φ 22 = some SFmt ∧ Φ 23 = some SParse ∧ Φ 24 = some (FT fun (t : ByteArray × Unit) => if t.1.size ≤ 1000 then some (pRes (parseR t.1.data.toList)) else none) ∧ Φ 13 = some Aw := by
  have g : Idl.Good Tryd.prog (fun _ => none) := good_none (by kernel_rfl)
  have g := g.add (by kernel_rfl) con26
  have g := g.add (by kernel_rfl) con44
  have g := g.add (by kernel_rfl) con43
  have g := g.add (facts_enters ic25) (con25 g)
  have g := g.add (facts_enters ic31) (con31 g)
  have g := g.add (facts_enters ic30) (con30 g)
  have g := g.add (facts_enters ic28) (con28 g)
  have g := g.add (facts_enters ic33) (con33 g)
  have g := g.add (facts_enters ic29) (con29 g)
  have g := g.add (facts_enters ic34) (con34 g)
  have g := g.add (facts_enters ic32) (con32 g)
  have g := g.add (facts_enters ic27) (con27 g rfl)
  have g := g.add (facts_enters ic14) (con14 g rfl rfl rfl rfl rfl)
  have g := g.add (facts_enters ic11) (con11 g rfl)
  have g := g.add (facts_enters ic15) (con15 g rfl rfl rfl rfl rfl)
  have g := g.add (facts_enters ic12) (con12 g rfl)
  have g := g.add (facts_enters ic17) (con17 g)
  have g := g.add (facts_enters ic16) (con16 g)
  have g := g.add (facts_enters ic41) (con41 g)
  have g := g.add (facts_enters ic42) (con42 g)
  have g := g.add (facts_enters ic22) (con22 g rfl rfl rfl)
  have g := g.add (facts_enters ic20) (con20 g)
  have g := g.add (by kernel_rfl) con21
  have g := g.add (facts_enters ic23) (con23 g rfl rfl)
  have g := g.add (facts_enters ic24) (con24 g rfl rfl rfl)
  have g := g.add (facts_enters ic18) (con18 g rfl rfl rfl rfl rfl rfl rfl rfl rfl)
  have g := g.add (facts_enters ic19) (con19 g rfl rfl rfl rfl)
  have g := g.add (facts_enters ic13) (con13 g rfl rfl rfl rfl rfl rfl rfl)
  exact ⟨_, g, rfl, rfl, rfl, rfl, rfl, rfl, rfl, rfl, rfl, rfl, rfl, rfl, rfl, rfl⟩
theorem C3 : Contract Tryd.prog 3 (FT fun (t : Int × Int × Int × Unit) => if inI t.1 ∧ inI t.2.1 then some true else none) := by
  obtain ⟨Φ, g, h11, h12, h14, h15, h16, h17, h18, h19, h20, h21, h22, h23, h24, h13⟩ := all03
  exact con3 g h11 h12 h13
theorem C4 : Contract Tryd.prog 4 (FT fun (t : Int × Int × KInt .u8 × Unit) => if inI t.1 ∧ inI t.2.1 then some true else none) := by
  obtain ⟨Φ, g, h11, h12, h14, h15, h16, h17, h18, h19, h20, h21, h22, h23, h24, h13⟩ := all03
  exact con4 g h11 h13
theorem C5 : Contract Tryd.prog 5 (FT fun (t : ProdD × Unit) => if inI t.1.amount ∧ inI t.1.num ∧ inI t.1.den then some true else none) := by
  obtain ⟨Φ, g, h11, h12, h14, h15, h16, h17, h18, h19, h20, h21, h22, h23, h24, h13⟩ := all03
  exact con5 g h14 h15 h13
theorem C6 : Contract Tryd.prog 6 (FT fun (t : List Int × Unit) => if t.1.length ≤ 9223372036854775807 ∧ ∀ n, n ∈ t.1 → inI n then some true else none) := by
  obtain ⟨Φ, g, h11, h12, h14, h15, h16, h17, h18, h19, h20, h21, h22, h23, h24, h13⟩ := all03
  exact con6 g h16 h17 h13
theorem C7 : Contract Tryd.prog 7 (FT fun (t : Int × List Int × Unit) => if t.2.1.length ≤ 9223372036854775807 ∧ ∀ n, n ∈ t.2.1 → inI n then some true else none) := by
  obtain ⟨Φ, g, h11, h12, h14, h15, h16, h17, h18, h19, h20, h21, h22, h23, h24, h13⟩ := all03
  exact con7 g h18 h19 h20 h13
theorem C8 : Contract Tryd.prog 8 (FT fun (t : Int × List Int × Unit) => if t.2.1.length ≤ 9223372036854775807 ∧ ∀ n, n ∈ t.2.1 → inI n then some true else none) := by
  obtain ⟨Φ, g, h11, h12, h14, h15, h16, h17, h18, h19, h20, h21, h22, h23, h24, h13⟩ := all03
  exact con8 g h18 h13
theorem C9 : Contract Tryd.prog 9 (FT fun (t : Int × ByteArray × Unit) => if inI t.1 ∧ t.2.1.size ≤ 9223372036854775807 then some true else none) := by
  obtain ⟨Φ, g, h11, h12, h14, h15, h16, h17, h18, h19, h20, h21, h22, h23, h24, h13⟩ := all03
  exact con9 g h21 h22 h23 h13
theorem C10 : Contract Tryd.prog 10 (FT fun (t : ByteArray × Unit) => if t.1.size ≤ 9223372036854775807 then some true else none) := by
  obtain ⟨Φ, g, h11, h12, h14, h15, h16, h17, h18, h19, h20, h21, h22, h23, h24, h13⟩ := all03
  exact con10 g h23 h24 h21 h13
theorem Tryd.own : ownKnob Tryd.prog.godebug = none := by kernel_rfl
theorem Tryd.laidOut : laidOutB Tryd.prog = true := by kernel_rfl
theorem rdProdD {n : Nat} : Reads Tryd.prog (n + 2) 29 ProdD ProdD.ok := by
  intro cs hs
  rw [shape_struct Tryd.underlying29] at hs
  obtain ⟨p0, q0, rfl, h0, hs⟩ := shapeFs_cons hs
  obtain ⟨p1, q1, rfl, h1, hs⟩ := shapeFs_cons hs
  obtain ⟨p2, q2, rfl, h2, hs⟩ := shapeFs_cons hs
  obtain ⟨p3, q3, rfl, h3, hs⟩ := shapeFs_cons hs
  cases shapeFs_nil hs
  obtain ⟨a0, _, rfl, k0⟩ := (Reads.int (by kernel_rfl)) _ h0
  obtain ⟨a1, _, rfl, k1⟩ := (Reads.int (by kernel_rfl)) _ h1
  obtain ⟨a2, _, rfl, k2⟩ := (Reads.int (by kernel_rfl)) _ h2
  obtain ⟨a3, _, rfl, k3⟩ := (Reads.int (by kernel_rfl)) _ h3
  exact ⟨⟨a0, a1, a2, a3⟩, by rw [aggT_struct Tryd.underlying29]; rfl, rfl, k0, k1, k2, k3⟩
def laid5 : List (String × DataW Unit) := [("math/bits.deBruijn32tab", Rows.laid_math_bits_deBruijn32tab), ("math/bits.deBruijn64tab", Rows.laid_math_bits_deBruijn64tab), ("internal/strconv.uint64pow10", Rows.laid_internal_strconv_uint64pow10), ("strconv.ErrRange", Rows.laid_strconv_ErrRange), ("strconv.ErrSyntax", Rows.laid_strconv_ErrSyntax)]
theorem door_met (os : Os) (args : Array Value) : laidMetH Tryd.prog laid5 ((World.doorLaid Tryd.prog 400 os).forCall (fun _ _ => 0) ⟨#[], args, []⟩).memory :=
  laidMetH_of_parts3 (fuel := 8) (laidMet_of_run' 8 (by kernel_rfl) (by kernel_rfl)) (by kernel_rfl) (by kernel_rfl)
theorem starE : "*" ++ "errors.errorString" = "*errors.errorString" := by decide
theorem rowE (u : TypeId) (h : Tryd.prog.typeName? 3 u = some "*errors.errorString") : u = 105 :=
  typeName_ptr_named (nm := "errors.errorString") (by rw [starE]; kernel_rfl) (by kernel_rfl) (by decide) u (by rw [starE]; exact h)
theorem laid_of {W : World} (h : laidMetH Tryd.prog laid5 W) : Laid.ok W := by
  rw [MakeChecks.laidMetH_plain _ _ _ (by kernel_rfl)] at h
  have h1 := laidMet.filter (fun x => x.1 == "internal/strconv.uint64pow10") h
  rw [show laid5.filter (fun x => x.1 == "internal/strconv.uint64pow10") = [("internal/strconv.uint64pow10", Lib.tabData .u64 Lib.pow10Tab)] by kernel_rfl] at h1
  have h2 := Lib.tabIs_of_head (P := Tryd.prog) (g := 2) (t := 93) (e := 45) (n := 20) (by kernel_rfl) (by kernel_rfl) (by kernel_rfl) (by kernel_rfl) (by kernel_rfl) (by kernel_rfl) h1
  unfold Lib.TabIs Lib.pow10Tab at h2
  rw [List.map_map] at h2
  have h3 := laidMet.filter (fun x => x.1 == "strconv.ErrSyntax") h
  rw [show laid5.filter (fun x => x.1 == "strconv.ErrSyntax") = [("strconv.ErrSyntax", Rows.laid_strconv_ErrSyntax)] by kernel_rfl] at h3
  have h4 := laidMet.filter (fun x => x.1 == "strconv.ErrRange") h
  rw [show laid5.filter (fun x => x.1 == "strconv.ErrRange") = [("strconv.ErrRange", Rows.laid_strconv_ErrRange)] by kernel_rfl] at h4
  obtain ⟨a0, s0, hv0, -, -, -⟩ := laid_sentinel (g := 3) (ti := 71) (te := 107) (ts := 9) h3 (by kernel_rfl) (by kernel_rfl) Tryd.underlying71 rowE Tryd.underlying105 Tryd.underlying107 rfl rfl Tryd.underlying9 (by kernel_rfl) (by kernel_rfl)
  obtain ⟨a1, s1, hv1, -, -, -⟩ := laid_sentinel (g := 4) (ti := 71) (te := 107) (ts := 9) h4 (by kernel_rfl) (by kernel_rfl) Tryd.underlying71 rowE Tryd.underlying105 Tryd.underlying107 rfl rfl Tryd.underlying9 (by kernel_rfl) (by kernel_rfl)
  exact ⟨h2, ⟨_, _, hv0⟩, _, _, hv1⟩
end Go.Proofs.YtfmeplnoikfndaaDoor
