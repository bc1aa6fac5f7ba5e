/-
  DERIVED. GIVEN WITH THE SEED: THE CARDS: each row of YtfinfdbbndcomaaDoorRows.lean that lists a variable, with what it lists TIED to the program's text (the seventh form; the later family's looks); each row that meets fmt, with fmt's text TOLD by the authors' own Lean function (tested against real Go, not proved from fmt's source: count such statements apart). THE CARD IS WHAT COUNTS. Prove the row's statement (the work); the ties are given (YtfinfdbbndcomaaDoorTie.lean); close each card by the builder's one call (the guide's Derived/Test/ToyasCard.lean, 'card_holds'). Laid BY PROGRAM, IN A SANDBOX (cutbox-door.mjs). By AI agents, Wed Nov 11 2026. No macro, syntax, notation, axiom, sorry.
-/
import Derived.Test.YtfinfdbbndcomaaDoorRows
import GoSem.ClaimSeven
namespace Go.Proofs.YtfinfdbbndcomaaDoor
namespace Rows

/-- THE TIED CARD OF 'chargenetlaw34.TxnValids'. -/
def txnValidsCard : Claim7 := { stood := { row := txnValidsRow, standIns := [], harness := (true, "e73f7b544f882b55592dbc60471f5523ea126bcf18d6f0b381132aee2641582f"), looks := false }, kinds := [], alts := [], laidByText := true, laidKinds := [.data, .data, .data], laidTests := true, laidLooks := .later }
def TxnValidsCardSaid : Prop := Claim7.holds Tryd.pinned (.plain (OpenSpec.ofChange txnValidsSpec)) txnValidsCard

/-- THE TIED CARD OF 'chargenetlaw34.TxnBegins'. -/
def txnBeginsCard : Claim7 := { stood := { row := txnBeginsRow, standIns := [], harness := (true, "e73f7b544f882b55592dbc60471f5523ea126bcf18d6f0b381132aee2641582f"), looks := false }, kinds := [], alts := [], laidByText := true, laidKinds := [.data, .data, .data], laidTests := true, laidLooks := .later }
def TxnBeginsCardSaid : Prop := Claim7.holds Tryd.pinned (.plain (OpenSpec.ofChange txnBeginsSpec)) txnBeginsCard

/-- THE TIED CARD OF 'chargenetlaw34.TxnUpdates'. -/
def txnUpdatesCard : Claim7 := { stood := { row := txnUpdatesRow, standIns := [], harness := (true, "e73f7b544f882b55592dbc60471f5523ea126bcf18d6f0b381132aee2641582f"), looks := false }, kinds := [], alts := [], laidByText := true, laidKinds := [.data, .data, .data], laidTests := true, laidLooks := .later }
def TxnUpdatesCardSaid : Prop := Claim7.holds Tryd.pinned (.plain (OpenSpec.ofChange txnUpdatesSpec)) txnUpdatesCard

/-- THE TIED CARD OF 'chargenetlaw34.TxnEnds'. -/
def txnEndsCard : Claim7 := { stood := { row := txnEndsRow, standIns := [], harness := (true, "e73f7b544f882b55592dbc60471f5523ea126bcf18d6f0b381132aee2641582f"), looks := false }, kinds := [], alts := [], laidByText := true, laidKinds := [.data, .data, .data], laidTests := true, laidLooks := .later }
def TxnEndsCardSaid : Prop := Claim7.holds Tryd.pinned (.plain (OpenSpec.ofChange txnEndsSpec)) txnEndsCard

/-- THE TIED CARD OF 'chargenetlaw34.TxnCourses'. -/
def txnCoursesCard : Claim7 := { stood := { row := txnCoursesRow, standIns := [], harness := (true, "e73f7b544f882b55592dbc60471f5523ea126bcf18d6f0b381132aee2641582f"), looks := false }, kinds := [], alts := [], laidByText := true, laidKinds := [.data, .data, .data], laidTests := true, laidLooks := .later }
def TxnCoursesCardSaid : Prop := Claim7.holds Tryd.pinned (.plain (OpenSpec.ofChange txnCoursesSpec)) txnCoursesCard

/-- THE SECOND FORM's CARD OF 'chargenetlaw34.TxnValids'. -/
def txnValidsUptoCard : Claim7 := { stood := { row := txnValidsUptoRow, standIns := [], harness := (true, "e73f7b544f882b55592dbc60471f5523ea126bcf18d6f0b381132aee2641582f"), looks := false }, kinds := [], alts := [], laidByText := true, laidKinds := [.data, .data, .data], laidTests := true, laidLooks := .later }
def TxnValidsUptoCardSaid : Prop := Claim7.holds Tryd.pinned (.plain (OpenSpec.upto txnValidsSpec)) txnValidsUptoCard

/-- THE SECOND FORM's CARD OF 'chargenetlaw34.TxnBegins'. -/
def txnBeginsUptoCard : Claim7 := { stood := { row := txnBeginsUptoRow, standIns := [], harness := (true, "e73f7b544f882b55592dbc60471f5523ea126bcf18d6f0b381132aee2641582f"), looks := false }, kinds := [], alts := [], laidByText := true, laidKinds := [.data, .data, .data], laidTests := true, laidLooks := .later }
def TxnBeginsUptoCardSaid : Prop := Claim7.holds Tryd.pinned (.plain (OpenSpec.upto txnBeginsSpec)) txnBeginsUptoCard

/-- THE SECOND FORM's CARD OF 'chargenetlaw34.TxnUpdates'. -/
def txnUpdatesUptoCard : Claim7 := { stood := { row := txnUpdatesUptoRow, standIns := [], harness := (true, "e73f7b544f882b55592dbc60471f5523ea126bcf18d6f0b381132aee2641582f"), looks := false }, kinds := [], alts := [], laidByText := true, laidKinds := [.data, .data, .data], laidTests := true, laidLooks := .later }
def TxnUpdatesUptoCardSaid : Prop := Claim7.holds Tryd.pinned (.plain (OpenSpec.upto txnUpdatesSpec)) txnUpdatesUptoCard

/-- THE SECOND FORM's CARD OF 'chargenetlaw34.TxnEnds'. -/
def txnEndsUptoCard : Claim7 := { stood := { row := txnEndsUptoRow, standIns := [], harness := (true, "e73f7b544f882b55592dbc60471f5523ea126bcf18d6f0b381132aee2641582f"), looks := false }, kinds := [], alts := [], laidByText := true, laidKinds := [.data, .data, .data], laidTests := true, laidLooks := .later }
def TxnEndsUptoCardSaid : Prop := Claim7.holds Tryd.pinned (.plain (OpenSpec.upto txnEndsSpec)) txnEndsUptoCard

/-- THE SECOND FORM's CARD OF 'chargenetlaw34.TxnCourses'. -/
def txnCoursesUptoCard : Claim7 := { stood := { row := txnCoursesUptoRow, standIns := [], harness := (true, "e73f7b544f882b55592dbc60471f5523ea126bcf18d6f0b381132aee2641582f"), looks := false }, kinds := [], alts := [], laidByText := true, laidKinds := [.data, .data, .data], laidTests := true, laidLooks := .later }
def TxnCoursesUptoCardSaid : Prop := Claim7.holds Tryd.pinned (.plain (OpenSpec.upto txnCoursesSpec)) txnCoursesUptoCard
end Rows
end Go.Proofs.YtfinfdbbndcomaaDoor
