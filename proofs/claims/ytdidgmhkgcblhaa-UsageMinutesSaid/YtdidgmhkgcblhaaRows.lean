/-
  No cell of these rows narrows 'for every input' (looked for: loops, veiled, ifaces, maps, wideKeys, modest, calm, conditions, laid).
  DERIVED. THE GIVEN ROWS OF THIS SEAT. 6 by the template 'for every input the law returns true; each argument reads behind the call as it read before'; 0 by the template 'total and deterministic' (their statements: YtdidgmhkgcblhaaTotals.lean).
  GIVEN WITH THE SEED: the statements are not yours to turn. If you find one false, say at which input.
  Laid BY PROGRAM, IN A SANDBOX (cutbox-rows.mjs): the forced cells as the released guide's own fill.sh prints them over the translation 009cfa6e318cdbf6… (all of the seat's roots in one cut). By AI agents, Wed Nov 11 2026. No macro, syntax, notation, axiom, sorry.
-/
import Derived.Test.YtdidgmhkgcblhaaChecked
import GoSem.Claim
import GoSem.ClaimJoined
import GoSem.ClaimMapViews
import Derived.JoinedTies
import Derived.KernelRfl
namespace Go.Proofs.Ytdidgmhkgcblhaa
/- THE CELL 'sum', in the pinned program and in every row, IS THE sha256 OF THE DUMP (.gsa) THAT YtdidgmhkgcblhaaProg.lean LOADS. Nothing in Lean hashes anything: it is a label: what it is worth is what the hold of that sum in a sandbox is worth. -/
noncomputable def Try.pinned : Pinned := { name := "ytdidgmhkgcblhaa", sum := "009cfa6e318cdbf6d7bdc4fcaac3c68f1460fda2700eb6b28f59b67d3f892679", checked := Try.checked }
namespace Rows
def none {H : Type} : Left H := { results := [], args := [] }

/-- 'chargenetlaw20.UsageValids': WHATEVER THE INPUT: true; the input reads as it did. -/
def usageValidsSpec : ChangeSpec := { name := "usageValids", fn := fun _ => fun
  | [d1, d2] => { results := [.lit (.bool true)], args := [d1, d2] }
  | _ => none }
def usageValidsRow : OpenClaim := { program := "ytdidgmhkgcblhaa", sum := "009cfa6e318cdbf6d7bdc4fcaac3c68f1460fda2700eb6b28f59b67d3f892679", func := "chargenet/chargenetlaw20.UsageValids", spec := "usageValids", unfollowed := true, recurses := true, apart := false }
def UsageValidsSaid : Prop := usageValidsRow.holds Try.pinned (OpenSpec.ofChange usageValidsSpec)

/-- ITS FALSE NEIGHBOUR: 'it returns false'. Refute it at one input. -/
def usageValidsWrong : ChangeSpec := { name := "usageValids", fn := fun _ => fun
  | [d1, d2] => { results := [.lit (.bool false)], args := [d1, d2] }
  | _ => none }
def UsageValidsWrongFalsely : Prop := usageValidsRow.holds Try.pinned (OpenSpec.ofChange usageValidsWrong)

/-- 'chargenetlaw20.UsageTotals': WHATEVER THE INPUT: true; the input reads as it did. -/
def usageTotalsSpec : ChangeSpec := { name := "usageTotals", fn := fun _ => fun
  | [d1, d2] => { results := [.lit (.bool true)], args := [d1, d2] }
  | _ => none }
def usageTotalsRow : OpenClaim := { program := "ytdidgmhkgcblhaa", sum := "009cfa6e318cdbf6d7bdc4fcaac3c68f1460fda2700eb6b28f59b67d3f892679", func := "chargenet/chargenetlaw20.UsageTotals", spec := "usageTotals", unfollowed := true, recurses := true, apart := false }
def UsageTotalsSaid : Prop := usageTotalsRow.holds Try.pinned (OpenSpec.ofChange usageTotalsSpec)

/-- ITS FALSE NEIGHBOUR: 'it returns false'. Refute it at one input. -/
def usageTotalsWrong : ChangeSpec := { name := "usageTotals", fn := fun _ => fun
  | [d1, d2] => { results := [.lit (.bool false)], args := [d1, d2] }
  | _ => none }
def UsageTotalsWrongFalsely : Prop := usageTotalsRow.holds Try.pinned (OpenSpec.ofChange usageTotalsWrong)

/-- 'chargenetlaw20.UsageMinutes': WHATEVER THE INPUT: true; the input reads as it did. -/
def usageMinutesSpec : ChangeSpec := { name := "usageMinutes", fn := fun _ => fun
  | [d1, d2] => { results := [.lit (.bool true)], args := [d1, d2] }
  | _ => none }
def usageMinutesRow : OpenClaim := { program := "ytdidgmhkgcblhaa", sum := "009cfa6e318cdbf6d7bdc4fcaac3c68f1460fda2700eb6b28f59b67d3f892679", func := "chargenet/chargenetlaw20.UsageMinutes", spec := "usageMinutes", unfollowed := true, recurses := true, apart := false }
def UsageMinutesSaid : Prop := usageMinutesRow.holds Try.pinned (OpenSpec.ofChange usageMinutesSpec)

/-- ITS FALSE NEIGHBOUR: 'it returns false'. Refute it at one input. -/
def usageMinutesWrong : ChangeSpec := { name := "usageMinutes", fn := fun _ => fun
  | [d1, d2] => { results := [.lit (.bool false)], args := [d1, d2] }
  | _ => none }
def UsageMinutesWrongFalsely : Prop := usageMinutesRow.holds Try.pinned (OpenSpec.ofChange usageMinutesWrong)

/-- 'chargenetlaw20.UsageSums': WHATEVER THE INPUT: true; the input reads as it did. -/
def usageSumsSpec : ChangeSpec := { name := "usageSums", fn := fun _ => fun
  | [d1, d2] => { results := [.lit (.bool true)], args := [d1, d2] }
  | _ => none }
def usageSumsRow : OpenClaim := { program := "ytdidgmhkgcblhaa", sum := "009cfa6e318cdbf6d7bdc4fcaac3c68f1460fda2700eb6b28f59b67d3f892679", func := "chargenet/chargenetlaw20.UsageSums", spec := "usageSums", unfollowed := true, recurses := true, apart := false }
def UsageSumsSaid : Prop := usageSumsRow.holds Try.pinned (OpenSpec.ofChange usageSumsSpec)

/-- ITS FALSE NEIGHBOUR: 'it returns false'. Refute it at one input. -/
def usageSumsWrong : ChangeSpec := { name := "usageSums", fn := fun _ => fun
  | [d1, d2] => { results := [.lit (.bool false)], args := [d1, d2] }
  | _ => none }
def UsageSumsWrongFalsely : Prop := usageSumsRow.holds Try.pinned (OpenSpec.ofChange usageSumsWrong)

/-- 'chargenetlaw20.UsageFiner': WHATEVER THE INPUT: true; the input reads as it did. -/
def usageFinerSpec : ChangeSpec := { name := "usageFiner", fn := fun _ => fun
  | [d1, d2, d3, d4] => { results := [.lit (.bool true)], args := [d1, d2, d3, d4] }
  | _ => none }
def usageFinerRow : OpenClaim := { program := "ytdidgmhkgcblhaa", sum := "009cfa6e318cdbf6d7bdc4fcaac3c68f1460fda2700eb6b28f59b67d3f892679", func := "chargenet/chargenetlaw20.UsageFiner", spec := "usageFiner", unfollowed := true, recurses := true, apart := false }
def UsageFinerSaid : Prop := usageFinerRow.holds Try.pinned (OpenSpec.ofChange usageFinerSpec)

/-- ITS FALSE NEIGHBOUR: 'it returns false'. Refute it at one input. -/
def usageFinerWrong : ChangeSpec := { name := "usageFiner", fn := fun _ => fun
  | [d1, d2, d3, d4] => { results := [.lit (.bool false)], args := [d1, d2, d3, d4] }
  | _ => none }
def UsageFinerWrongFalsely : Prop := usageFinerRow.holds Try.pinned (OpenSpec.ofChange usageFinerWrong)

/-- 'chargenetlaw20.UsageParts': WHATEVER THE INPUT: true; the input reads as it did. -/
def usagePartsSpec : ChangeSpec := { name := "usageParts", fn := fun _ => fun
  | [d1, d2] => { results := [.lit (.bool true)], args := [d1, d2] }
  | _ => none }
def usagePartsRow : OpenClaim := { program := "ytdidgmhkgcblhaa", sum := "009cfa6e318cdbf6d7bdc4fcaac3c68f1460fda2700eb6b28f59b67d3f892679", func := "chargenet/chargenetlaw20.UsageParts", spec := "usageParts", unfollowed := true, recurses := true, apart := false }
def UsagePartsSaid : Prop := usagePartsRow.holds Try.pinned (OpenSpec.ofChange usagePartsSpec)

/-- ITS FALSE NEIGHBOUR: 'it returns false'. Refute it at one input. -/
def usagePartsWrong : ChangeSpec := { name := "usageParts", fn := fun _ => fun
  | [d1, d2] => { results := [.lit (.bool false)], args := [d1, d2] }
  | _ => none }
def UsagePartsWrongFalsely : Prop := usagePartsRow.holds Try.pinned (OpenSpec.ofChange usagePartsWrong)

/- THE SECOND FORM. 'bulk': how many values and letters a reading holds, each counted each time it is reached (what is shared counts as often as it is met; a slice's spare places count too). A statement '..UptoSaid' is the law's where the arguments, and the package variables that the reading takes, are together of bulk at most 1048576: NARROWER than '..Said'. Prove '..Said' where nothing that the law and all that it calls make is longer than what came in: it says more and counts as full. Else prove '..UptoSaid'. A law counts once. -/
mutual
def uptoBulk {H : Type} : DataW H → Nat
  | .lit (.string bytes) => bytes.length + 1
  | .lit _ => 1
  | .nil => 1
  | .ptr d => uptoBulk d + 1
  | .slice elems spare => uptoBulkAll elems + uptoBulkAll spare + 1
  | .agg parts => uptoBulkAll parts + 1
  | .iface _ d => uptoBulk d + 1
  | .map entries => uptoBulkEntries entries + 1
  | .held _ => 1
def uptoBulkAll {H : Type} : List (DataW H) → Nat
  | [] => 0
  | d :: r => uptoBulk d + uptoBulkAll r
def uptoBulkEntries {H : Type} : List (Lit × DataW H) → Nat
  | [] => 0
  | x :: r => uptoBulkEntry x + uptoBulkEntries r
def uptoBulkEntry {H : Type} : Lit × DataW H → Nat
  | (.string bytes, d) => bytes.length + uptoBulk d + 1
  | (_, d) => uptoBulk d + 1
 end
def uptoSmall : (H : Type) → List (DataW H) → Bool := fun _ ds => decide (uptoBulkAll ds ≤ 1048576)
def OpenSpec.upto (s : _root_.Go.ChangeSpec) : _root_.Go.OpenSpec := { _root_.Go.OpenSpec.ofChange s with cond := some uptoSmall }

/-- 'chargenetlaw20.UsageValids', WHERE WHAT IT READS IS OF BULK AT MOST 1048576: true; the input reads as it did. -/
def usageValidsUptoRow : OpenClaim := { program := "ytdidgmhkgcblhaa", sum := "009cfa6e318cdbf6d7bdc4fcaac3c68f1460fda2700eb6b28f59b67d3f892679", func := "chargenet/chargenetlaw20.UsageValids", spec := "usageValids", unfollowed := true, recurses := true, apart := false, narrowed := true }
def UsageValidsUptoSaid : Prop := usageValidsUptoRow.holds Try.pinned (OpenSpec.upto usageValidsSpec)

/-- 'chargenetlaw20.UsageTotals', WHERE WHAT IT READS IS OF BULK AT MOST 1048576: true; the input reads as it did. -/
def usageTotalsUptoRow : OpenClaim := { program := "ytdidgmhkgcblhaa", sum := "009cfa6e318cdbf6d7bdc4fcaac3c68f1460fda2700eb6b28f59b67d3f892679", func := "chargenet/chargenetlaw20.UsageTotals", spec := "usageTotals", unfollowed := true, recurses := true, apart := false, narrowed := true }
def UsageTotalsUptoSaid : Prop := usageTotalsUptoRow.holds Try.pinned (OpenSpec.upto usageTotalsSpec)

/-- 'chargenetlaw20.UsageMinutes', WHERE WHAT IT READS IS OF BULK AT MOST 1048576: true; the input reads as it did. -/
def usageMinutesUptoRow : OpenClaim := { program := "ytdidgmhkgcblhaa", sum := "009cfa6e318cdbf6d7bdc4fcaac3c68f1460fda2700eb6b28f59b67d3f892679", func := "chargenet/chargenetlaw20.UsageMinutes", spec := "usageMinutes", unfollowed := true, recurses := true, apart := false, narrowed := true }
def UsageMinutesUptoSaid : Prop := usageMinutesUptoRow.holds Try.pinned (OpenSpec.upto usageMinutesSpec)

/-- 'chargenetlaw20.UsageSums', WHERE WHAT IT READS IS OF BULK AT MOST 1048576: true; the input reads as it did. -/
def usageSumsUptoRow : OpenClaim := { program := "ytdidgmhkgcblhaa", sum := "009cfa6e318cdbf6d7bdc4fcaac3c68f1460fda2700eb6b28f59b67d3f892679", func := "chargenet/chargenetlaw20.UsageSums", spec := "usageSums", unfollowed := true, recurses := true, apart := false, narrowed := true }
def UsageSumsUptoSaid : Prop := usageSumsUptoRow.holds Try.pinned (OpenSpec.upto usageSumsSpec)

/-- 'chargenetlaw20.UsageFiner', WHERE WHAT IT READS IS OF BULK AT MOST 1048576: true; the input reads as it did. -/
def usageFinerUptoRow : OpenClaim := { program := "ytdidgmhkgcblhaa", sum := "009cfa6e318cdbf6d7bdc4fcaac3c68f1460fda2700eb6b28f59b67d3f892679", func := "chargenet/chargenetlaw20.UsageFiner", spec := "usageFiner", unfollowed := true, recurses := true, apart := false, narrowed := true }
def UsageFinerUptoSaid : Prop := usageFinerUptoRow.holds Try.pinned (OpenSpec.upto usageFinerSpec)

/-- 'chargenetlaw20.UsageParts', WHERE WHAT IT READS IS OF BULK AT MOST 1048576: true; the input reads as it did. -/
def usagePartsUptoRow : OpenClaim := { program := "ytdidgmhkgcblhaa", sum := "009cfa6e318cdbf6d7bdc4fcaac3c68f1460fda2700eb6b28f59b67d3f892679", func := "chargenet/chargenetlaw20.UsageParts", spec := "usageParts", unfollowed := true, recurses := true, apart := false, narrowed := true }
def UsagePartsUptoSaid : Prop := usagePartsUptoRow.holds Try.pinned (OpenSpec.upto usagePartsSpec)

end Rows
end Go.Proofs.Ytdidgmhkgcblhaa
