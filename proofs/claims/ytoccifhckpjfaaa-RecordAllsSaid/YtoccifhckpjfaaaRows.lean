/-
  No cell of these rows narrows 'for every input' (looked for: loops, veiled, ifaces, maps, wideKeys, modest, calm, conditions, laid).
  DERIVED. THE GIVEN ROWS OF THIS SEAT. 4 by the template 'for every input the law returns true; each argument reads behind the call as it read before'; 0 by the template 'total and deterministic' (their statements: YtoccifhckpjfaaaTotals.lean).
  GIVEN WITH THE SEED: the statements are not yours to turn. If you find one false, say at which input.
  Laid BY PROGRAM, IN A SANDBOX (cutbox-rows.mjs): the forced cells as the released guide's own fill.sh prints them over the translation c2896747d6fa4070… (all of the seat's roots in one cut). By AI agents, Wed Nov 11 2026. No macro, syntax, notation, axiom, sorry.
-/
import Derived.Test.YtoccifhckpjfaaaChecked
import GoSem.Claim
import GoSem.ClaimJoined
import GoSem.ClaimMapViews
import Derived.JoinedTies
import Derived.KernelRfl
namespace Go.Proofs.Ytoccifhckpjfaaa
/- THE CELL 'sum', in the pinned program and in every row, IS THE sha256 OF THE DUMP (.gsa) THAT YtoccifhckpjfaaaProg.lean LOADS. Nothing in Lean hashes anything: it is a label: what it is worth is what the hold of that sum in a sandbox is worth. -/
noncomputable def Try.pinned : Pinned := { name := "ytoccifhckpjfaaa", sum := "c2896747d6fa4070a8d03904752f9a0009878212ee0e9887de746886ad987d97", checked := Try.checked }
namespace Rows
def none {H : Type} : Left H := { results := [], args := [] }

/-- 'chargenetlaw37.RecordUpdates': WHATEVER THE INPUT: true; the input reads as it did. -/
def recordUpdatesSpec : ChangeSpec := { name := "recordUpdates", fn := fun _ => fun
  | [d1, d2, d3] => { results := [.lit (.bool true)], args := [d1, d2, d3] }
  | _ => none }
def recordUpdatesRow : OpenClaim := { program := "ytoccifhckpjfaaa", sum := "c2896747d6fa4070a8d03904752f9a0009878212ee0e9887de746886ad987d97", func := "chargenet/chargenetlaw37.RecordUpdates", spec := "recordUpdates", unfollowed := true, recurses := true, apart := false }
def RecordUpdatesSaid : Prop := recordUpdatesRow.holds Try.pinned (OpenSpec.ofChange recordUpdatesSpec)

/-- ITS FALSE NEIGHBOUR: 'it returns false'. Refute it at one input. -/
def recordUpdatesWrong : ChangeSpec := { name := "recordUpdates", fn := fun _ => fun
  | [d1, d2, d3] => { results := [.lit (.bool false)], args := [d1, d2, d3] }
  | _ => none }
def RecordUpdatesWrongFalsely : Prop := recordUpdatesRow.holds Try.pinned (OpenSpec.ofChange recordUpdatesWrong)

/-- 'chargenetlaw37.RecordOrders': WHATEVER THE INPUT: true; the input reads as it did. -/
def recordOrdersSpec : ChangeSpec := { name := "recordOrders", fn := fun _ => fun
  | [d1, d2, d3] => { results := [.lit (.bool true)], args := [d1, d2, d3] }
  | _ => none }
def recordOrdersRow : OpenClaim := { program := "ytoccifhckpjfaaa", sum := "c2896747d6fa4070a8d03904752f9a0009878212ee0e9887de746886ad987d97", func := "chargenet/chargenetlaw37.RecordOrders", spec := "recordOrders", unfollowed := true, recurses := true, apart := false }
def RecordOrdersSaid : Prop := recordOrdersRow.holds Try.pinned (OpenSpec.ofChange recordOrdersSpec)

/-- ITS FALSE NEIGHBOUR: 'it returns false'. Refute it at one input. -/
def recordOrdersWrong : ChangeSpec := { name := "recordOrders", fn := fun _ => fun
  | [d1, d2, d3] => { results := [.lit (.bool false)], args := [d1, d2, d3] }
  | _ => none }
def RecordOrdersWrongFalsely : Prop := recordOrdersRow.holds Try.pinned (OpenSpec.ofChange recordOrdersWrong)

/-- 'chargenetlaw37.RecordOfflines': WHATEVER THE INPUT: true; the input reads as it did. -/
def recordOfflinesSpec : ChangeSpec := { name := "recordOfflines", fn := fun _ => fun
  | [d1, d2, d3] => { results := [.lit (.bool true)], args := [d1, d2, d3] }
  | _ => none }
def recordOfflinesRow : OpenClaim := { program := "ytoccifhckpjfaaa", sum := "c2896747d6fa4070a8d03904752f9a0009878212ee0e9887de746886ad987d97", func := "chargenet/chargenetlaw37.RecordOfflines", spec := "recordOfflines", unfollowed := true, recurses := true, apart := false }
def RecordOfflinesSaid : Prop := recordOfflinesRow.holds Try.pinned (OpenSpec.ofChange recordOfflinesSpec)

/-- ITS FALSE NEIGHBOUR: 'it returns false'. Refute it at one input. -/
def recordOfflinesWrong : ChangeSpec := { name := "recordOfflines", fn := fun _ => fun
  | [d1, d2, d3] => { results := [.lit (.bool false)], args := [d1, d2, d3] }
  | _ => none }
def RecordOfflinesWrongFalsely : Prop := recordOfflinesRow.holds Try.pinned (OpenSpec.ofChange recordOfflinesWrong)

/-- 'chargenetlaw37.RecordAlls': WHATEVER THE INPUT: true; the input reads as it did. -/
def recordAllsSpec : ChangeSpec := { name := "recordAlls", fn := fun _ => fun
  | [d1, d2] => { results := [.lit (.bool true)], args := [d1, d2] }
  | _ => none }
def recordAllsRow : OpenClaim := { program := "ytoccifhckpjfaaa", sum := "c2896747d6fa4070a8d03904752f9a0009878212ee0e9887de746886ad987d97", func := "chargenet/chargenetlaw37.RecordAlls", spec := "recordAlls", unfollowed := true, recurses := true, apart := false }
def RecordAllsSaid : Prop := recordAllsRow.holds Try.pinned (OpenSpec.ofChange recordAllsSpec)

/-- ITS FALSE NEIGHBOUR: 'it returns false'. Refute it at one input. -/
def recordAllsWrong : ChangeSpec := { name := "recordAlls", fn := fun _ => fun
  | [d1, d2] => { results := [.lit (.bool false)], args := [d1, d2] }
  | _ => none }
def RecordAllsWrongFalsely : Prop := recordAllsRow.holds Try.pinned (OpenSpec.ofChange recordAllsWrong)

/- THE SECOND FORM. 'bulk': how many values and letters a reading holds, each counted each time it is reached (what is shared counts as often as it is met; a slice's spare places count too). A statement '..UptoSaid' is the law's where the arguments, and the package variables that the reading takes, are together of bulk at most 1048576: NARROWER than '..Said'. Prove '..Said' where nothing that the law and all that it calls make is longer than what came in: it says more and counts as full. Else prove '..UptoSaid'. A law counts once. -/
mutual
def uptoBulk {H : Type} : DataW H → Nat
  | .lit (.string bytes) => bytes.length + 1
  | .lit _ => 1
  | .nil => 1
  | .ptr d => uptoBulk d + 1
  | .slice elems spare => uptoBulkAll elems + uptoBulkAll spare + 1
  | .agg parts => uptoBulkAll parts + 1
  | .iface _ d => uptoBulk d + 1
  | .map entries => uptoBulkEntries entries + 1
  | .held _ => 1
def uptoBulkAll {H : Type} : List (DataW H) → Nat
  | [] => 0
  | d :: r => uptoBulk d + uptoBulkAll r
def uptoBulkEntries {H : Type} : List (Lit × DataW H) → Nat
  | [] => 0
  | x :: r => uptoBulkEntry x + uptoBulkEntries r
def uptoBulkEntry {H : Type} : Lit × DataW H → Nat
  | (.string bytes, d) => bytes.length + uptoBulk d + 1
  | (_, d) => uptoBulk d + 1
 end
def uptoSmall : (H : Type) → List (DataW H) → Bool := fun _ ds => decide (uptoBulkAll ds ≤ 1048576)
def OpenSpec.upto (s : _root_.Go.ChangeSpec) : _root_.Go.OpenSpec := { _root_.Go.OpenSpec.ofChange s with cond := some uptoSmall }

/-- 'chargenetlaw37.RecordUpdates', WHERE WHAT IT READS IS OF BULK AT MOST 1048576: true; the input reads as it did. -/
def recordUpdatesUptoRow : OpenClaim := { program := "ytoccifhckpjfaaa", sum := "c2896747d6fa4070a8d03904752f9a0009878212ee0e9887de746886ad987d97", func := "chargenet/chargenetlaw37.RecordUpdates", spec := "recordUpdates", unfollowed := true, recurses := true, apart := false, narrowed := true }
def RecordUpdatesUptoSaid : Prop := recordUpdatesUptoRow.holds Try.pinned (OpenSpec.upto recordUpdatesSpec)

/-- 'chargenetlaw37.RecordOrders', WHERE WHAT IT READS IS OF BULK AT MOST 1048576: true; the input reads as it did. -/
def recordOrdersUptoRow : OpenClaim := { program := "ytoccifhckpjfaaa", sum := "c2896747d6fa4070a8d03904752f9a0009878212ee0e9887de746886ad987d97", func := "chargenet/chargenetlaw37.RecordOrders", spec := "recordOrders", unfollowed := true, recurses := true, apart := false, narrowed := true }
def RecordOrdersUptoSaid : Prop := recordOrdersUptoRow.holds Try.pinned (OpenSpec.upto recordOrdersSpec)

/-- 'chargenetlaw37.RecordOfflines', WHERE WHAT IT READS IS OF BULK AT MOST 1048576: true; the input reads as it did. -/
def recordOfflinesUptoRow : OpenClaim := { program := "ytoccifhckpjfaaa", sum := "c2896747d6fa4070a8d03904752f9a0009878212ee0e9887de746886ad987d97", func := "chargenet/chargenetlaw37.RecordOfflines", spec := "recordOfflines", unfollowed := true, recurses := true, apart := false, narrowed := true }
def RecordOfflinesUptoSaid : Prop := recordOfflinesUptoRow.holds Try.pinned (OpenSpec.upto recordOfflinesSpec)

/-- 'chargenetlaw37.RecordAlls', WHERE WHAT IT READS IS OF BULK AT MOST 1048576: true; the input reads as it did. -/
def recordAllsUptoRow : OpenClaim := { program := "ytoccifhckpjfaaa", sum := "c2896747d6fa4070a8d03904752f9a0009878212ee0e9887de746886ad987d97", func := "chargenet/chargenetlaw37.RecordAlls", spec := "recordAlls", unfollowed := true, recurses := true, apart := false, narrowed := true }
def RecordAllsUptoSaid : Prop := recordAllsUptoRow.holds Try.pinned (OpenSpec.upto recordAllsSpec)

end Rows
end Go.Proofs.Ytoccifhckpjfaaa
