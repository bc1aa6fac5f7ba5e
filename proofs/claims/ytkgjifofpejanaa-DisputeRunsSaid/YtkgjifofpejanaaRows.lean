/-
  No cell of these rows narrows 'for every input' (looked for: loops, veiled, ifaces, maps, wideKeys, modest, calm, conditions, laid).
  DERIVED. THE GIVEN ROWS OF THIS SEAT. 4 by the template 'for every input the law returns true; each argument reads behind the call as it read before'; 0 by the template 'total and deterministic' (their statements: YtkgjifofpejanaaTotals.lean).
  GIVEN WITH THE SEED: the statements are not yours to turn. If you find one false, say at which input.
  Laid BY PROGRAM, IN A SANDBOX (cutbox-rows.mjs): the forced cells as the released guide's own fill.sh prints them over the translation 343f3b66c31619df… (all of the seat's roots in one cut). By AI agents, Wed Nov 11 2026. No macro, syntax, notation, axiom, sorry.
-/
import Derived.Test.YtkgjifofpejanaaChecked
import GoSem.Claim
import GoSem.ClaimJoined
import GoSem.ClaimMapViews
import Derived.JoinedTies
import Derived.KernelRfl
namespace Go.Proofs.Ytkgjifofpejanaa
/- THE CELL 'sum', in the pinned program and in every row, IS THE sha256 OF THE DUMP (.gsa) THAT YtkgjifofpejanaaProg.lean LOADS. Nothing in Lean hashes anything: it is a label: what it is worth is what the hold of that sum in a sandbox is worth. -/
noncomputable def Try.pinned : Pinned := { name := "ytkgjifofpejanaa", sum := "343f3b66c31619dfdb4598a6a46e6ebaed6bb6e57f22253dcbcf4efd6a1a3d21", checked := Try.checked }
namespace Rows
def none {H : Type} : Left H := { results := [], args := [] }

/-- 'chargenetlaw47.DisputeValids': WHATEVER THE INPUT: true; the input reads as it did. -/
def disputeValidsSpec : ChangeSpec := { name := "disputeValids", fn := fun _ => fun
  | [d] => { results := [.lit (.bool true)], args := [d] }
  | _ => none }
def disputeValidsRow : OpenClaim := { program := "ytkgjifofpejanaa", sum := "343f3b66c31619dfdb4598a6a46e6ebaed6bb6e57f22253dcbcf4efd6a1a3d21", func := "chargenet/chargenetlaw47.DisputeValids", spec := "disputeValids", apart := false }
def DisputeValidsSaid : Prop := disputeValidsRow.holds Try.pinned (OpenSpec.ofChange disputeValidsSpec)

/-- ITS FALSE NEIGHBOUR: 'it returns false'. Refute it at one input. -/
def disputeValidsWrong : ChangeSpec := { name := "disputeValids", fn := fun _ => fun
  | [d] => { results := [.lit (.bool false)], args := [d] }
  | _ => none }
def DisputeValidsWrongFalsely : Prop := disputeValidsRow.holds Try.pinned (OpenSpec.ofChange disputeValidsWrong)

/-- 'chargenetlaw47.DisputeOpens': WHATEVER THE INPUT: true; the input reads as it did. -/
def disputeOpensSpec : ChangeSpec := { name := "disputeOpens", fn := fun _ => fun
  | [d1, d2, d3, d4] => { results := [.lit (.bool true)], args := [d1, d2, d3, d4] }
  | _ => none }
def disputeOpensRow : OpenClaim := { program := "ytkgjifofpejanaa", sum := "343f3b66c31619dfdb4598a6a46e6ebaed6bb6e57f22253dcbcf4efd6a1a3d21", func := "chargenet/chargenetlaw47.DisputeOpens", spec := "disputeOpens", apart := false }
def DisputeOpensSaid : Prop := disputeOpensRow.holds Try.pinned (OpenSpec.ofChange disputeOpensSpec)

/-- ITS FALSE NEIGHBOUR: 'it returns false'. Refute it at one input. -/
def disputeOpensWrong : ChangeSpec := { name := "disputeOpens", fn := fun _ => fun
  | [d1, d2, d3, d4] => { results := [.lit (.bool false)], args := [d1, d2, d3, d4] }
  | _ => none }
def DisputeOpensWrongFalsely : Prop := disputeOpensRow.holds Try.pinned (OpenSpec.ofChange disputeOpensWrong)

/-- 'chargenetlaw47.DisputeSteps': WHATEVER THE INPUT: true; the input reads as it did. -/
def disputeStepsSpec : ChangeSpec := { name := "disputeSteps", fn := fun _ => fun
  | [d1, d2] => { results := [.lit (.bool true)], args := [d1, d2] }
  | _ => none }
def disputeStepsRow : OpenClaim := { program := "ytkgjifofpejanaa", sum := "343f3b66c31619dfdb4598a6a46e6ebaed6bb6e57f22253dcbcf4efd6a1a3d21", func := "chargenet/chargenetlaw47.DisputeSteps", spec := "disputeSteps", apart := false }
def DisputeStepsSaid : Prop := disputeStepsRow.holds Try.pinned (OpenSpec.ofChange disputeStepsSpec)

/-- ITS FALSE NEIGHBOUR: 'it returns false'. Refute it at one input. -/
def disputeStepsWrong : ChangeSpec := { name := "disputeSteps", fn := fun _ => fun
  | [d1, d2] => { results := [.lit (.bool false)], args := [d1, d2] }
  | _ => none }
def DisputeStepsWrongFalsely : Prop := disputeStepsRow.holds Try.pinned (OpenSpec.ofChange disputeStepsWrong)

/-- 'chargenetlaw47.DisputeRuns': WHATEVER THE INPUT: true; the input reads as it did. -/
def disputeRunsSpec : ChangeSpec := { name := "disputeRuns", fn := fun _ => fun
  | [d1, d2, d3, d4] => { results := [.lit (.bool true)], args := [d1, d2, d3, d4] }
  | _ => none }
def disputeRunsRow : OpenClaim := { program := "ytkgjifofpejanaa", sum := "343f3b66c31619dfdb4598a6a46e6ebaed6bb6e57f22253dcbcf4efd6a1a3d21", func := "chargenet/chargenetlaw47.DisputeRuns", spec := "disputeRuns", apart := false }
def DisputeRunsSaid : Prop := disputeRunsRow.holds Try.pinned (OpenSpec.ofChange disputeRunsSpec)

/-- ITS FALSE NEIGHBOUR: 'it returns false'. Refute it at one input. -/
def disputeRunsWrong : ChangeSpec := { name := "disputeRuns", fn := fun _ => fun
  | [d1, d2, d3, d4] => { results := [.lit (.bool false)], args := [d1, d2, d3, d4] }
  | _ => none }
def DisputeRunsWrongFalsely : Prop := disputeRunsRow.holds Try.pinned (OpenSpec.ofChange disputeRunsWrong)

/- THE SECOND FORM. 'bulk': how many values and letters a reading holds, each counted each time it is reached (what is shared counts as often as it is met; a slice's spare places count too). A statement '..UptoSaid' is the law's where the arguments, and the package variables that the reading takes, are together of bulk at most 1048576: NARROWER than '..Said'. Prove '..Said' where nothing that the law and all that it calls make is longer than what came in: it says more and counts as full. Else prove '..UptoSaid'. A law counts once. -/
mutual
def uptoBulk {H : Type} : DataW H → Nat
  | .lit (.string bytes) => bytes.length + 1
  | .lit _ => 1
  | .nil => 1
  | .ptr d => uptoBulk d + 1
  | .slice elems spare => uptoBulkAll elems + uptoBulkAll spare + 1
  | .agg parts => uptoBulkAll parts + 1
  | .iface _ d => uptoBulk d + 1
  | .map entries => uptoBulkEntries entries + 1
  | .held _ => 1
def uptoBulkAll {H : Type} : List (DataW H) → Nat
  | [] => 0
  | d :: r => uptoBulk d + uptoBulkAll r
def uptoBulkEntries {H : Type} : List (Lit × DataW H) → Nat
  | [] => 0
  | x :: r => uptoBulkEntry x + uptoBulkEntries r
def uptoBulkEntry {H : Type} : Lit × DataW H → Nat
  | (.string bytes, d) => bytes.length + uptoBulk d + 1
  | (_, d) => uptoBulk d + 1
 end
def uptoSmall : (H : Type) → List (DataW H) → Bool := fun _ ds => decide (uptoBulkAll ds ≤ 1048576)
def OpenSpec.upto (s : _root_.Go.ChangeSpec) : _root_.Go.OpenSpec := { _root_.Go.OpenSpec.ofChange s with cond := some uptoSmall }

/-- 'chargenetlaw47.DisputeValids', WHERE WHAT IT READS IS OF BULK AT MOST 1048576: true; the input reads as it did. -/
def disputeValidsUptoRow : OpenClaim := { program := "ytkgjifofpejanaa", sum := "343f3b66c31619dfdb4598a6a46e6ebaed6bb6e57f22253dcbcf4efd6a1a3d21", func := "chargenet/chargenetlaw47.DisputeValids", spec := "disputeValids", apart := false, narrowed := true }
def DisputeValidsUptoSaid : Prop := disputeValidsUptoRow.holds Try.pinned (OpenSpec.upto disputeValidsSpec)

/-- 'chargenetlaw47.DisputeOpens', WHERE WHAT IT READS IS OF BULK AT MOST 1048576: true; the input reads as it did. -/
def disputeOpensUptoRow : OpenClaim := { program := "ytkgjifofpejanaa", sum := "343f3b66c31619dfdb4598a6a46e6ebaed6bb6e57f22253dcbcf4efd6a1a3d21", func := "chargenet/chargenetlaw47.DisputeOpens", spec := "disputeOpens", apart := false, narrowed := true }
def DisputeOpensUptoSaid : Prop := disputeOpensUptoRow.holds Try.pinned (OpenSpec.upto disputeOpensSpec)

/-- 'chargenetlaw47.DisputeSteps', WHERE WHAT IT READS IS OF BULK AT MOST 1048576: true; the input reads as it did. -/
def disputeStepsUptoRow : OpenClaim := { program := "ytkgjifofpejanaa", sum := "343f3b66c31619dfdb4598a6a46e6ebaed6bb6e57f22253dcbcf4efd6a1a3d21", func := "chargenet/chargenetlaw47.DisputeSteps", spec := "disputeSteps", apart := false, narrowed := true }
def DisputeStepsUptoSaid : Prop := disputeStepsUptoRow.holds Try.pinned (OpenSpec.upto disputeStepsSpec)

/-- 'chargenetlaw47.DisputeRuns', WHERE WHAT IT READS IS OF BULK AT MOST 1048576: true; the input reads as it did. -/
def disputeRunsUptoRow : OpenClaim := { program := "ytkgjifofpejanaa", sum := "343f3b66c31619dfdb4598a6a46e6ebaed6bb6e57f22253dcbcf4efd6a1a3d21", func := "chargenet/chargenetlaw47.DisputeRuns", spec := "disputeRuns", apart := false, narrowed := true }
def DisputeRunsUptoSaid : Prop := disputeRunsUptoRow.holds Try.pinned (OpenSpec.upto disputeRunsSpec)

end Rows
end Go.Proofs.Ytkgjifofpejanaa
