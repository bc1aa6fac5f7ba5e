/-
  No cell of these rows narrows 'for every input' (looked for: loops, veiled, ifaces, maps, wideKeys, modest, calm, conditions, laid).
  DERIVED. THE GIVEN ROWS OF THIS SEAT. 7 by the template 'for every input the law returns true; each argument reads behind the call as it read before'; 0 by the template 'total and deterministic' (their statements: YtlkejejgaenjcaaTotals.lean).
  GIVEN WITH THE SEED: the statements are not yours to turn. If you find one false, say at which input.
  Laid BY PROGRAM, IN A SANDBOX (cutbox-rows.mjs): the forced cells as the released guide's own fill.sh prints them over the translation ab3d0dd7d1e601b9… (all of the seat's roots in one cut). By AI agents, Wed Nov 11 2026. No macro, syntax, notation, axiom, sorry.
-/
import Derived.Test.YtlkejejgaenjcaaChecked
import GoSem.Claim
import GoSem.ClaimJoined
import GoSem.ClaimMapViews
import Derived.JoinedTies
import Derived.KernelRfl
namespace Go.Proofs.Ytlkejejgaenjcaa
/- THE CELL 'sum', in the pinned program and in every row, IS THE sha256 OF THE DUMP (.gsa) THAT YtlkejejgaenjcaaProg.lean LOADS. Nothing in Lean hashes anything: it is a label: what it is worth is what the hold of that sum in a sandbox is worth. -/
noncomputable def Try.pinned : Pinned := { name := "ytlkejejgaenjcaa", sum := "ab3d0dd7d1e601b979a1c932fb74cf4a7d24503016a0cdefd28b003dda5de969", checked := Try.checked }
namespace Rows
def none {H : Type} : Left H := { results := [], args := [] }

/-- 'chargenetlaw22.ListValid': WHATEVER THE INPUT: true; the input reads as it did. -/
def listValidSpec : ChangeSpec := { name := "listValid", fn := fun _ => fun
  | [d] => { results := [.lit (.bool true)], args := [d] }
  | _ => none }
def listValidRow : OpenClaim := { program := "ytlkejejgaenjcaa", sum := "ab3d0dd7d1e601b979a1c932fb74cf4a7d24503016a0cdefd28b003dda5de969", func := "chargenet/chargenetlaw22.ListValid", spec := "listValid", unfollowed := true, recurses := true, apart := false }
def ListValidSaid : Prop := listValidRow.holds Try.pinned (OpenSpec.ofChange listValidSpec)

/-- ITS FALSE NEIGHBOUR: 'it returns false'. Refute it at one input. -/
def listValidWrong : ChangeSpec := { name := "listValid", fn := fun _ => fun
  | [d] => { results := [.lit (.bool false)], args := [d] }
  | _ => none }
def ListValidWrongFalsely : Prop := listValidRow.holds Try.pinned (OpenSpec.ofChange listValidWrong)

/-- 'chargenetlaw22.ListFull': WHATEVER THE INPUT: true; the input reads as it did. -/
def listFullSpec : ChangeSpec := { name := "listFull", fn := fun _ => fun
  | [d1, d2, d3] => { results := [.lit (.bool true)], args := [d1, d2, d3] }
  | _ => none }
def listFullRow : OpenClaim := { program := "ytlkejejgaenjcaa", sum := "ab3d0dd7d1e601b979a1c932fb74cf4a7d24503016a0cdefd28b003dda5de969", func := "chargenet/chargenetlaw22.ListFull", spec := "listFull", unfollowed := true, recurses := true, apart := false }
def ListFullSaid : Prop := listFullRow.holds Try.pinned (OpenSpec.ofChange listFullSpec)

/-- ITS FALSE NEIGHBOUR: 'it returns false'. Refute it at one input. -/
def listFullWrong : ChangeSpec := { name := "listFull", fn := fun _ => fun
  | [d1, d2, d3] => { results := [.lit (.bool false)], args := [d1, d2, d3] }
  | _ => none }
def ListFullWrongFalsely : Prop := listFullRow.holds Try.pinned (OpenSpec.ofChange listFullWrong)

/-- 'chargenetlaw22.ListChange': WHATEVER THE INPUT: true; the input reads as it did. -/
def listChangeSpec : ChangeSpec := { name := "listChange", fn := fun _ => fun
  | [d1, d2, d3] => { results := [.lit (.bool true)], args := [d1, d2, d3] }
  | _ => none }
def listChangeRow : OpenClaim := { program := "ytlkejejgaenjcaa", sum := "ab3d0dd7d1e601b979a1c932fb74cf4a7d24503016a0cdefd28b003dda5de969", func := "chargenet/chargenetlaw22.ListChange", spec := "listChange", unfollowed := true, recurses := true, apart := false }
def ListChangeSaid : Prop := listChangeRow.holds Try.pinned (OpenSpec.ofChange listChangeSpec)

/-- ITS FALSE NEIGHBOUR: 'it returns false'. Refute it at one input. -/
def listChangeWrong : ChangeSpec := { name := "listChange", fn := fun _ => fun
  | [d1, d2, d3] => { results := [.lit (.bool false)], args := [d1, d2, d3] }
  | _ => none }
def ListChangeWrongFalsely : Prop := listChangeRow.holds Try.pinned (OpenSpec.ofChange listChangeWrong)

/-- 'chargenetlaw22.ListDiff': WHATEVER THE INPUT: true; the input reads as it did. -/
def listDiffSpec : ChangeSpec := { name := "listDiff", fn := fun _ => fun
  | [d1, d2] => { results := [.lit (.bool true)], args := [d1, d2] }
  | _ => none }
def listDiffRow : OpenClaim := { program := "ytlkejejgaenjcaa", sum := "ab3d0dd7d1e601b979a1c932fb74cf4a7d24503016a0cdefd28b003dda5de969", func := "chargenet/chargenetlaw22.ListDiff", spec := "listDiff", unfollowed := true, recurses := true, apart := false }
def ListDiffSaid : Prop := listDiffRow.holds Try.pinned (OpenSpec.ofChange listDiffSpec)

/-- ITS FALSE NEIGHBOUR: 'it returns false'. Refute it at one input. -/
def listDiffWrong : ChangeSpec := { name := "listDiff", fn := fun _ => fun
  | [d1, d2] => { results := [.lit (.bool false)], args := [d1, d2] }
  | _ => none }
def ListDiffWrongFalsely : Prop := listDiffRow.holds Try.pinned (OpenSpec.ofChange listDiffWrong)

/-- 'chargenetlaw22.ListBack': WHATEVER THE INPUT: true; the input reads as it did. -/
def listBackSpec : ChangeSpec := { name := "listBack", fn := fun _ => fun
  | [d1, d2] => { results := [.lit (.bool true)], args := [d1, d2] }
  | _ => none }
def listBackRow : OpenClaim := { program := "ytlkejejgaenjcaa", sum := "ab3d0dd7d1e601b979a1c932fb74cf4a7d24503016a0cdefd28b003dda5de969", func := "chargenet/chargenetlaw22.ListBack", spec := "listBack", unfollowed := true, recurses := true, apart := false }
def ListBackSaid : Prop := listBackRow.holds Try.pinned (OpenSpec.ofChange listBackSpec)

/-- ITS FALSE NEIGHBOUR: 'it returns false'. Refute it at one input. -/
def listBackWrong : ChangeSpec := { name := "listBack", fn := fun _ => fun
  | [d1, d2] => { results := [.lit (.bool false)], args := [d1, d2] }
  | _ => none }
def ListBackWrongFalsely : Prop := listBackRow.holds Try.pinned (OpenSpec.ofChange listBackWrong)

/-- 'chargenetlaw22.ListTurns': WHATEVER THE INPUT: true; the input reads as it did. -/
def listTurnsSpec : ChangeSpec := { name := "listTurns", fn := fun _ => fun
  | [d1, d2, d3] => { results := [.lit (.bool true)], args := [d1, d2, d3] }
  | _ => none }
def listTurnsRow : OpenClaim := { program := "ytlkejejgaenjcaa", sum := "ab3d0dd7d1e601b979a1c932fb74cf4a7d24503016a0cdefd28b003dda5de969", func := "chargenet/chargenetlaw22.ListTurns", spec := "listTurns", unfollowed := true, recurses := true, apart := false }
def ListTurnsSaid : Prop := listTurnsRow.holds Try.pinned (OpenSpec.ofChange listTurnsSpec)

/-- ITS FALSE NEIGHBOUR: 'it returns false'. Refute it at one input. -/
def listTurnsWrong : ChangeSpec := { name := "listTurns", fn := fun _ => fun
  | [d1, d2, d3] => { results := [.lit (.bool false)], args := [d1, d2, d3] }
  | _ => none }
def ListTurnsWrongFalsely : Prop := listTurnsRow.holds Try.pinned (OpenSpec.ofChange listTurnsWrong)

/-- 'chargenetlaw22.ListKeeps': WHATEVER THE INPUT: true; the input reads as it did. -/
def listKeepsSpec : ChangeSpec := { name := "listKeeps", fn := fun _ => fun
  | [d1, d2] => { results := [.lit (.bool true)], args := [d1, d2] }
  | _ => none }
def listKeepsRow : OpenClaim := { program := "ytlkejejgaenjcaa", sum := "ab3d0dd7d1e601b979a1c932fb74cf4a7d24503016a0cdefd28b003dda5de969", func := "chargenet/chargenetlaw22.ListKeeps", spec := "listKeeps", unfollowed := true, recurses := true, apart := false }
def ListKeepsSaid : Prop := listKeepsRow.holds Try.pinned (OpenSpec.ofChange listKeepsSpec)

/-- ITS FALSE NEIGHBOUR: 'it returns false'. Refute it at one input. -/
def listKeepsWrong : ChangeSpec := { name := "listKeeps", fn := fun _ => fun
  | [d1, d2] => { results := [.lit (.bool false)], args := [d1, d2] }
  | _ => none }
def ListKeepsWrongFalsely : Prop := listKeepsRow.holds Try.pinned (OpenSpec.ofChange listKeepsWrong)

/- THE SECOND FORM. 'bulk': how many values and letters a reading holds, each counted each time it is reached (what is shared counts as often as it is met; a slice's spare places count too). A statement '..UptoSaid' is the law's where the arguments, and the package variables that the reading takes, are together of bulk at most 1048576: NARROWER than '..Said'. Prove '..Said' where nothing that the law and all that it calls make is longer than what came in: it says more and counts as full. Else prove '..UptoSaid'. A law counts once. -/
mutual
def uptoBulk {H : Type} : DataW H → Nat
  | .lit (.string bytes) => bytes.length + 1
  | .lit _ => 1
  | .nil => 1
  | .ptr d => uptoBulk d + 1
  | .slice elems spare => uptoBulkAll elems + uptoBulkAll spare + 1
  | .agg parts => uptoBulkAll parts + 1
  | .iface _ d => uptoBulk d + 1
  | .map entries => uptoBulkEntries entries + 1
  | .held _ => 1
def uptoBulkAll {H : Type} : List (DataW H) → Nat
  | [] => 0
  | d :: r => uptoBulk d + uptoBulkAll r
def uptoBulkEntries {H : Type} : List (Lit × DataW H) → Nat
  | [] => 0
  | x :: r => uptoBulkEntry x + uptoBulkEntries r
def uptoBulkEntry {H : Type} : Lit × DataW H → Nat
  | (.string bytes, d) => bytes.length + uptoBulk d + 1
  | (_, d) => uptoBulk d + 1
 end
def uptoSmall : (H : Type) → List (DataW H) → Bool := fun _ ds => decide (uptoBulkAll ds ≤ 1048576)
def OpenSpec.upto (s : _root_.Go.ChangeSpec) : _root_.Go.OpenSpec := { _root_.Go.OpenSpec.ofChange s with cond := some uptoSmall }

/-- 'chargenetlaw22.ListValid', WHERE WHAT IT READS IS OF BULK AT MOST 1048576: true; the input reads as it did. -/
def listValidUptoRow : OpenClaim := { program := "ytlkejejgaenjcaa", sum := "ab3d0dd7d1e601b979a1c932fb74cf4a7d24503016a0cdefd28b003dda5de969", func := "chargenet/chargenetlaw22.ListValid", spec := "listValid", unfollowed := true, recurses := true, apart := false, narrowed := true }
def ListValidUptoSaid : Prop := listValidUptoRow.holds Try.pinned (OpenSpec.upto listValidSpec)

/-- 'chargenetlaw22.ListFull', WHERE WHAT IT READS IS OF BULK AT MOST 1048576: true; the input reads as it did. -/
def listFullUptoRow : OpenClaim := { program := "ytlkejejgaenjcaa", sum := "ab3d0dd7d1e601b979a1c932fb74cf4a7d24503016a0cdefd28b003dda5de969", func := "chargenet/chargenetlaw22.ListFull", spec := "listFull", unfollowed := true, recurses := true, apart := false, narrowed := true }
def ListFullUptoSaid : Prop := listFullUptoRow.holds Try.pinned (OpenSpec.upto listFullSpec)

/-- 'chargenetlaw22.ListChange', WHERE WHAT IT READS IS OF BULK AT MOST 1048576: true; the input reads as it did. -/
def listChangeUptoRow : OpenClaim := { program := "ytlkejejgaenjcaa", sum := "ab3d0dd7d1e601b979a1c932fb74cf4a7d24503016a0cdefd28b003dda5de969", func := "chargenet/chargenetlaw22.ListChange", spec := "listChange", unfollowed := true, recurses := true, apart := false, narrowed := true }
def ListChangeUptoSaid : Prop := listChangeUptoRow.holds Try.pinned (OpenSpec.upto listChangeSpec)

/-- 'chargenetlaw22.ListDiff', WHERE WHAT IT READS IS OF BULK AT MOST 1048576: true; the input reads as it did. -/
def listDiffUptoRow : OpenClaim := { program := "ytlkejejgaenjcaa", sum := "ab3d0dd7d1e601b979a1c932fb74cf4a7d24503016a0cdefd28b003dda5de969", func := "chargenet/chargenetlaw22.ListDiff", spec := "listDiff", unfollowed := true, recurses := true, apart := false, narrowed := true }
def ListDiffUptoSaid : Prop := listDiffUptoRow.holds Try.pinned (OpenSpec.upto listDiffSpec)

/-- 'chargenetlaw22.ListBack', WHERE WHAT IT READS IS OF BULK AT MOST 1048576: true; the input reads as it did. -/
def listBackUptoRow : OpenClaim := { program := "ytlkejejgaenjcaa", sum := "ab3d0dd7d1e601b979a1c932fb74cf4a7d24503016a0cdefd28b003dda5de969", func := "chargenet/chargenetlaw22.ListBack", spec := "listBack", unfollowed := true, recurses := true, apart := false, narrowed := true }
def ListBackUptoSaid : Prop := listBackUptoRow.holds Try.pinned (OpenSpec.upto listBackSpec)

/-- 'chargenetlaw22.ListTurns', WHERE WHAT IT READS IS OF BULK AT MOST 1048576: true; the input reads as it did. -/
def listTurnsUptoRow : OpenClaim := { program := "ytlkejejgaenjcaa", sum := "ab3d0dd7d1e601b979a1c932fb74cf4a7d24503016a0cdefd28b003dda5de969", func := "chargenet/chargenetlaw22.ListTurns", spec := "listTurns", unfollowed := true, recurses := true, apart := false, narrowed := true }
def ListTurnsUptoSaid : Prop := listTurnsUptoRow.holds Try.pinned (OpenSpec.upto listTurnsSpec)

/-- 'chargenetlaw22.ListKeeps', WHERE WHAT IT READS IS OF BULK AT MOST 1048576: true; the input reads as it did. -/
def listKeepsUptoRow : OpenClaim := { program := "ytlkejejgaenjcaa", sum := "ab3d0dd7d1e601b979a1c932fb74cf4a7d24503016a0cdefd28b003dda5de969", func := "chargenet/chargenetlaw22.ListKeeps", spec := "listKeeps", unfollowed := true, recurses := true, apart := false, narrowed := true }
def ListKeepsUptoSaid : Prop := listKeepsUptoRow.holds Try.pinned (OpenSpec.upto listKeepsSpec)

end Rows
end Go.Proofs.Ytlkejejgaenjcaa
