/- RecordsMeet: all contracts joined; what is laid; how its arguments read. -/
import Derived.Test.YteocedfakgdckaaDoorEvt19p
import Derived.Test.YteocedfakgdckaaDoorItoa19
import Derived.ProofKit
import Derived.LaidMore
import Derived.LaidSub
import Derived.OpenShut
import Derived.MakeChecks
import Derived.Stop.Joined
namespace Go.Proofs.YteocedfakgdckaaDoor
set_option linter.all false
open Go.Idl Go.RowKit
set_option maxRecDepth 100000
theorem all19 : ∃ Φ : Specs, Idl.Good Tryd.prog Φ ∧ Φ 4 = some SBeg ∧ Φ 5 = some SUpd ∧ Φ 6 = some SEnd ∧ Φ 7 = some SMake ∧ Φ 8 = some SDel ∧ Φ 9 = some SSameR := by
  have g : Idl.Good Tryd.prog (fun _ => none) := good_none (by kernel_rfl)
  have g := g.add (by kernel_rfl) con11
  have g := g.add (facts_enters ic32) (con32 g)
  have g := g.add (facts_enters ic10) (con10 g rfl)
  have g := g.add (facts_enters ic13) (con13 g)
  have g := g.add (facts_enters ic34) (con34 g rfl rfl)
  have g := g.add (facts_enters ic12) (con12 g rfl)
  have g := g.add (facts_enters ic4) (con4 g rfl rfl rfl rfl rfl)
  have g := g.add (facts_enters ic15) (con15 g rfl rfl rfl)
  have g := g.add (facts_enters ic5) (con5 g rfl rfl)
  have g := g.add (facts_enters ic6) (con6 g rfl rfl)
  have g := g.add (facts_enters ic63) (con63 g rfl)
  have g := g.add (facts_enters ic64) (con64 g)
  have g := g.add (facts_enters ic35) (con35 g rfl rfl rfl)
  have g := g.add (facts_enters ic31) (con31 g)
  have g := g.add (facts_enters ic39) (con39 g rfl)
  have g := g.add (facts_enters ic41) (con41 g)
  have g := g.add (facts_enters ic43) (con43 g)
  have g := g.add (facts_enters ic66) (con66 g rfl)
  have g := g.add (facts_enters ic19) (con19 g rfl rfl rfl)
  have g := g.add (facts_enters ic40) (con40 g rfl)
  have g := g.add (facts_enters ic38) (con38 g)
  have g := g.add (facts_enters ic16) (con16 g rfl rfl rfl rfl rfl rfl)
  have g := g.add (facts_enters ic17) (con17 g)
  have g := g.add (facts_enters ic18) (con18 g rfl)
  have g := g.add (facts_enters ic9) (con9 g rfl)
  have g := g.add (facts_enters ic7) (con7 g rfl rfl rfl rfl)
  have g := g.add (facts_enters ic71) (con71 g)
  have g := g.add (facts_enters ic49) (con49 g rfl)
  have g := g.add (facts_enters ic47) (con47 g rfl)
  have g := g.add (facts_enters ic48) (con48 g rfl)
  have g := g.add (facts_enters ic87) (con87 g)
  have g := g.add (by kernel_rfl) (con51 g rfl rfl)
  have g := g.add (by kernel_rfl) (con50 g rfl rfl rfl rfl)
  have g := g.add (by kernel_rfl) (con52 g rfl rfl rfl rfl)
  have g := g.add (facts_enters ic25) (con25 g rfl rfl rfl rfl rfl rfl)
  have g := g.add (facts_enters ic77) (con77 g rfl rfl)
  have g := g.add (facts_enters ic26) (con26 g rfl rfl rfl rfl rfl)
  have g := g.add (facts_enters ic76) (con76 g)
  have g := g.add (facts_enters ic53) (con53 g rfl)
  have g := g.add (facts_enters ic44) (con44 g rfl)
  have g := g.add (facts_enters ic20) (con20 g)
  have g := g.add (facts_enters ic21) (con21 g rfl rfl)
  have g := g.add (facts_enters ic24) (con24 g rfl)
  have g := g.add (facts_enters ic46) (con46 g rfl)
  have g := g.add (facts_enters ic27) (con27 g rfl)
  have g := g.add (facts_enters ic22) (con22 g rfl rfl rfl rfl rfl)
  have g := g.add (facts_enters ic23) (con23 g rfl rfl rfl rfl rfl)
  have g := g.add (by kernel_rfl) (con96 )
  have g := g.add (facts_enters ic89) (con89 g rfl)
  have g := g.add (facts_enters ic88) (con88 g)
  have g := g.add (facts_enters ic59) (con59 g)
  have g := g.add (facts_enters ic80) (con80 g rfl rfl)
  have g := g.add (facts_enters ic60) (con60 g)
  have g := g.add (facts_enters ic57) (con57 g rfl rfl rfl rfl)
  have g := g.add (facts_enters ic58) (con58 g rfl)
  have g := g.add (facts_enters ic28) (con28 g rfl rfl rfl rfl rfl rfl rfl)
  have g := g.add (facts_enters ic30) (con30 g rfl rfl)
  have g := g.add (facts_enters ic29) (con29 g rfl rfl)
  have g := g.add (facts_enters ic8) (con8 g rfl rfl rfl rfl rfl rfl rfl rfl rfl rfl rfl rfl)
  exact ⟨_, g, rfl, rfl, rfl, rfl, rfl, rfl⟩
theorem C3 : Contract Tryd.prog 3 STop := by
  obtain ⟨Φ, g, h4, h5, h6, h7, h8, h9⟩ := all19
  exact con3 g h4 h5 h6 h7 h8 h9
theorem Tryd.own : ownKnob Tryd.prog.godebug = none := by kernel_rfl
theorem Tryd.laidOut : laidOutB Tryd.prog = true := by kernel_rfl
def laid3 : List (String × DataW Unit) := [("math/bits.deBruijn32tab", Rows.laid_math_bits_deBruijn32tab), ("math/bits.deBruijn64tab", Rows.laid_math_bits_deBruijn64tab), ("internal/strconv.uint64pow10", Rows.laid_internal_strconv_uint64pow10)]
theorem door_met (os : Os) (args : Array Value) : laidMetH Tryd.prog laid3 ((World.doorLaid Tryd.prog 400 os).forCall (fun _ _ => 0) ⟨#[], args, []⟩).memory :=
  laidMetH_of_parts3 (fuel := 8) (laidMet_of_run' 8 (by kernel_rfl) (by kernel_rfl)) (by kernel_rfl) (by kernel_rfl)
theorem laid_of {W : World} (h : laidMetH Tryd.prog laid3 W) : Laid.ok W := by
  have h1 := laidMetH.filter (fun x => x.1 == "internal/strconv.uint64pow10") h
  rw [show laid3.filter (fun x => x.1 == "internal/strconv.uint64pow10") = [("internal/strconv.uint64pow10", Lib.tabData .u64 Lib.pow10Tab)] by kernel_rfl] at h1
  rw [MakeChecks.laidMetH_plain _ _ _ (by kernel_rfl)] at h1
  have h2 := Lib.tabIs_of_head (P := Tryd.prog) (g := 0) (t := 158) (e := 141) (n := 20) gPow (by kernel_rfl) (by kernel_rfl) (by kernel_rfl) (by kernel_rfl) (by kernel_rfl) h1
  unfold Lib.TabIs Lib.pow10Tab at h2
  rw [List.map_map] at h2
  exact h2
end Go.Proofs.YteocedfakgdckaaDoor
