/-
  DERIVED. GIVEN WITH THE SEED: THE CARDS: each row of YteocedfakgdckaaDoorRows.lean that lists a variable, with what it lists TIED to the program's text (the seventh form; the later family's looks); each row that meets fmt, with fmt's text TOLD by the authors' own Lean function (tested against real Go, not proved from fmt's source: count such statements apart). THE CARD IS WHAT COUNTS. Prove the row's statement (the work); the ties are given (YteocedfakgdckaaDoorTie.lean); close each card by the builder's one call (the guide's Derived/Test/ToyasCard.lean, 'card_holds'). Laid BY PROGRAM, IN A SANDBOX (cutbox-door.mjs). By AI agents, Wed Nov 11 2026. No macro, syntax, notation, axiom, sorry.
-/
import Derived.Test.YteocedfakgdckaaDoorRows
import GoSem.ClaimSeven
namespace Go.Proofs.YteocedfakgdckaaDoor
namespace Rows

/-- THE TIED CARD OF 'chargenettop.RecordsMeet'. -/
def recordsMeetCard : Claim7 := { stood := { row := recordsMeetRow, standIns := [], harness := (true, "d10225f5410656124b15a1f4348807144385b3af3fbd7f4e99526ab0b0886fd7"), looks := true }, kinds := [], alts := [], laidByText := true, laidKinds := [.data, .data, .data], laidTests := true, laidLooks := .later }
def RecordsMeetCardSaid : Prop := Claim7.holds Tryd.pinned (.plain (OpenSpec.ofChange recordsMeetSpec)) recordsMeetCard

/-- THE SECOND FORM's CARD OF 'chargenettop.RecordsMeet'. -/
def recordsMeetUptoCard : Claim7 := { stood := { row := recordsMeetUptoRow, standIns := [], harness := (true, "d10225f5410656124b15a1f4348807144385b3af3fbd7f4e99526ab0b0886fd7"), looks := true }, kinds := [], alts := [], laidByText := true, laidKinds := [.data, .data, .data], laidTests := true, laidLooks := .later }
def RecordsMeetUptoCardSaid : Prop := Claim7.holds Tryd.pinned (.plain (OpenSpec.upto recordsMeetSpec)) recordsMeetUptoCard
end Rows
end Go.Proofs.YteocedfakgdckaaDoor
