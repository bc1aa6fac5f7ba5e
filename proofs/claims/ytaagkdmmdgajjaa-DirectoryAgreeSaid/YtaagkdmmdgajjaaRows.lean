/-
  No cell of these rows narrows 'for every input' (looked for: loops, veiled, ifaces, maps, wideKeys, modest, calm, conditions, laid).
  DERIVED. THE GIVEN ROWS OF THIS SEAT. 5 by the template 'for every input the law returns true; each argument reads behind the call as it read before'; 0 by the template 'total and deterministic' (their statements: YtaagkdmmdgajjaaTotals.lean).
  GIVEN WITH THE SEED: the statements are not yours to turn. If you find one false, say at which input.
  Laid BY PROGRAM, IN A SANDBOX (cutbox-rows.mjs): the forced cells as the released guide's own fill.sh prints them over the translation 98608c274af3aab2… (all of the seat's roots in one cut). By AI agents, Wed Nov 11 2026. No macro, syntax, notation, axiom, sorry.
-/
import Derived.Test.YtaagkdmmdgajjaaChecked
import GoSem.Claim
import GoSem.ClaimJoined
import GoSem.ClaimMapViews
import Derived.JoinedTies
import Derived.KernelRfl
namespace Go.Proofs.Ytaagkdmmdgajjaa
/- THE CELL 'sum', in the pinned program and in every row, IS THE sha256 OF THE DUMP (.gsa) THAT YtaagkdmmdgajjaaProg.lean LOADS. Nothing in Lean hashes anything: it is a label: what it is worth is what the hold of that sum in a sandbox is worth. -/
noncomputable def Try.pinned : Pinned := { name := "ytaagkdmmdgajjaa", sum := "98608c274af3aab2f844876b98b1961ea3bb9f454b3f7235a382eb463c8cf9a2", checked := Try.checked }
namespace Rows
def none {H : Type} : Left H := { results := [], args := [] }

/-- 'chargenetlaw45.DirectoryValid': WHATEVER THE INPUT: true; the input reads as it did. -/
def directoryValidSpec : ChangeSpec := { name := "directoryValid", fn := fun _ => fun
  | [d] => { results := [.lit (.bool true)], args := [d] }
  | _ => none }
def directoryValidRow : OpenClaim := { program := "ytaagkdmmdgajjaa", sum := "98608c274af3aab2f844876b98b1961ea3bb9f454b3f7235a382eb463c8cf9a2", func := "chargenet/chargenetlaw45.DirectoryValid", spec := "directoryValid", unfollowed := true, recurses := true, plainKeys := false, apart := false }
def DirectoryValidSaid : Prop := directoryValidRow.holds Try.pinned (OpenSpec.ofChange directoryValidSpec)

/-- ITS FALSE NEIGHBOUR: 'it returns false'. Refute it at one input. -/
def directoryValidWrong : ChangeSpec := { name := "directoryValid", fn := fun _ => fun
  | [d] => { results := [.lit (.bool false)], args := [d] }
  | _ => none }
def DirectoryValidWrongFalsely : Prop := directoryValidRow.holds Try.pinned (OpenSpec.ofChange directoryValidWrong)

/-- 'chargenetlaw45.DirectoryFind': WHATEVER THE INPUT: true; the input reads as it did. -/
def directoryFindSpec : ChangeSpec := { name := "directoryFind", fn := fun _ => fun
  | [d1, d2, d3, d4, d5, d6] => { results := [.lit (.bool true)], args := [d1, d2, d3, d4, d5, d6] }
  | _ => none }
def directoryFindRow : OpenClaim := { program := "ytaagkdmmdgajjaa", sum := "98608c274af3aab2f844876b98b1961ea3bb9f454b3f7235a382eb463c8cf9a2", func := "chargenet/chargenetlaw45.DirectoryFind", spec := "directoryFind", unfollowed := true, recurses := true, plainKeys := false, apart := false }
def DirectoryFindSaid : Prop := directoryFindRow.holds Try.pinned (OpenSpec.ofChange directoryFindSpec)

/-- ITS FALSE NEIGHBOUR: 'it returns false'. Refute it at one input. -/
def directoryFindWrong : ChangeSpec := { name := "directoryFind", fn := fun _ => fun
  | [d1, d2, d3, d4, d5, d6] => { results := [.lit (.bool false)], args := [d1, d2, d3, d4, d5, d6] }
  | _ => none }
def DirectoryFindWrongFalsely : Prop := directoryFindRow.holds Try.pinned (OpenSpec.ofChange directoryFindWrong)

/-- 'chargenetlaw45.DirectoryAgain': WHATEVER THE INPUT: true; the input reads as it did. -/
def directoryAgainSpec : ChangeSpec := { name := "directoryAgain", fn := fun _ => fun
  | [d1, d2, d3] => { results := [.lit (.bool true)], args := [d1, d2, d3] }
  | _ => none }
def directoryAgainRow : OpenClaim := { program := "ytaagkdmmdgajjaa", sum := "98608c274af3aab2f844876b98b1961ea3bb9f454b3f7235a382eb463c8cf9a2", func := "chargenet/chargenetlaw45.DirectoryAgain", spec := "directoryAgain", unfollowed := true, recurses := true, plainKeys := false, apart := false }
def DirectoryAgainSaid : Prop := directoryAgainRow.holds Try.pinned (OpenSpec.ofChange directoryAgainSpec)

/-- ITS FALSE NEIGHBOUR: 'it returns false'. Refute it at one input. -/
def directoryAgainWrong : ChangeSpec := { name := "directoryAgain", fn := fun _ => fun
  | [d1, d2, d3] => { results := [.lit (.bool false)], args := [d1, d2, d3] }
  | _ => none }
def DirectoryAgainWrongFalsely : Prop := directoryAgainRow.holds Try.pinned (OpenSpec.ofChange directoryAgainWrong)

/-- 'chargenetlaw45.DirectoryNews': WHATEVER THE INPUT: true; the input reads as it did. -/
def directoryNewsSpec : ChangeSpec := { name := "directoryNews", fn := fun _ => fun
  | [d1, d2, d3] => { results := [.lit (.bool true)], args := [d1, d2, d3] }
  | _ => none }
def directoryNewsRow : OpenClaim := { program := "ytaagkdmmdgajjaa", sum := "98608c274af3aab2f844876b98b1961ea3bb9f454b3f7235a382eb463c8cf9a2", func := "chargenet/chargenetlaw45.DirectoryNews", spec := "directoryNews", unfollowed := true, recurses := true, plainKeys := false, apart := false }
def DirectoryNewsSaid : Prop := directoryNewsRow.holds Try.pinned (OpenSpec.ofChange directoryNewsSpec)

/-- ITS FALSE NEIGHBOUR: 'it returns false'. Refute it at one input. -/
def directoryNewsWrong : ChangeSpec := { name := "directoryNews", fn := fun _ => fun
  | [d1, d2, d3] => { results := [.lit (.bool false)], args := [d1, d2, d3] }
  | _ => none }
def DirectoryNewsWrongFalsely : Prop := directoryNewsRow.holds Try.pinned (OpenSpec.ofChange directoryNewsWrong)

/-- 'chargenetlaw45.DirectoryAgree': WHATEVER THE INPUT: true; the input reads as it did. -/
def directoryAgreeSpec : ChangeSpec := { name := "directoryAgree", fn := fun _ => fun
  | [d1, d2, d3, d4] => { results := [.lit (.bool true)], args := [d1, d2, d3, d4] }
  | _ => none }
def directoryAgreeRow : OpenClaim := { program := "ytaagkdmmdgajjaa", sum := "98608c274af3aab2f844876b98b1961ea3bb9f454b3f7235a382eb463c8cf9a2", func := "chargenet/chargenetlaw45.DirectoryAgree", spec := "directoryAgree", unfollowed := true, recurses := true, plainKeys := false, apart := false }
def DirectoryAgreeSaid : Prop := directoryAgreeRow.holds Try.pinned (OpenSpec.ofChange directoryAgreeSpec)

/-- ITS FALSE NEIGHBOUR: 'it returns false'. Refute it at one input. -/
def directoryAgreeWrong : ChangeSpec := { name := "directoryAgree", fn := fun _ => fun
  | [d1, d2, d3, d4] => { results := [.lit (.bool false)], args := [d1, d2, d3, d4] }
  | _ => none }
def DirectoryAgreeWrongFalsely : Prop := directoryAgreeRow.holds Try.pinned (OpenSpec.ofChange directoryAgreeWrong)

/- THE SECOND FORM. 'bulk': how many values and letters a reading holds, each counted each time it is reached (what is shared counts as often as it is met; a slice's spare places count too). A statement '..UptoSaid' is the law's where the arguments, and the package variables that the reading takes, are together of bulk at most 1048576: NARROWER than '..Said'. Prove '..Said' where nothing that the law and all that it calls make is longer than what came in: it says more and counts as full. Else prove '..UptoSaid'. A law counts once. -/
mutual
def uptoBulk {H : Type} : DataW H → Nat
  | .lit (.string bytes) => bytes.length + 1
  | .lit _ => 1
  | .nil => 1
  | .ptr d => uptoBulk d + 1
  | .slice elems spare => uptoBulkAll elems + uptoBulkAll spare + 1
  | .agg parts => uptoBulkAll parts + 1
  | .iface _ d => uptoBulk d + 1
  | .map entries => uptoBulkEntries entries + 1
  | .held _ => 1
def uptoBulkAll {H : Type} : List (DataW H) → Nat
  | [] => 0
  | d :: r => uptoBulk d + uptoBulkAll r
def uptoBulkEntries {H : Type} : List (Lit × DataW H) → Nat
  | [] => 0
  | x :: r => uptoBulkEntry x + uptoBulkEntries r
def uptoBulkEntry {H : Type} : Lit × DataW H → Nat
  | (.string bytes, d) => bytes.length + uptoBulk d + 1
  | (_, d) => uptoBulk d + 1
 end
def uptoSmall : (H : Type) → List (DataW H) → Bool := fun _ ds => decide (uptoBulkAll ds ≤ 1048576)
def OpenSpec.upto (s : _root_.Go.ChangeSpec) : _root_.Go.OpenSpec := { _root_.Go.OpenSpec.ofChange s with cond := some uptoSmall }

/-- 'chargenetlaw45.DirectoryValid', WHERE WHAT IT READS IS OF BULK AT MOST 1048576: true; the input reads as it did. -/
def directoryValidUptoRow : OpenClaim := { program := "ytaagkdmmdgajjaa", sum := "98608c274af3aab2f844876b98b1961ea3bb9f454b3f7235a382eb463c8cf9a2", func := "chargenet/chargenetlaw45.DirectoryValid", spec := "directoryValid", unfollowed := true, recurses := true, plainKeys := false, apart := false, narrowed := true }
def DirectoryValidUptoSaid : Prop := directoryValidUptoRow.holds Try.pinned (OpenSpec.upto directoryValidSpec)

/-- 'chargenetlaw45.DirectoryFind', WHERE WHAT IT READS IS OF BULK AT MOST 1048576: true; the input reads as it did. -/
def directoryFindUptoRow : OpenClaim := { program := "ytaagkdmmdgajjaa", sum := "98608c274af3aab2f844876b98b1961ea3bb9f454b3f7235a382eb463c8cf9a2", func := "chargenet/chargenetlaw45.DirectoryFind", spec := "directoryFind", unfollowed := true, recurses := true, plainKeys := false, apart := false, narrowed := true }
def DirectoryFindUptoSaid : Prop := directoryFindUptoRow.holds Try.pinned (OpenSpec.upto directoryFindSpec)

/-- 'chargenetlaw45.DirectoryAgain', WHERE WHAT IT READS IS OF BULK AT MOST 1048576: true; the input reads as it did. -/
def directoryAgainUptoRow : OpenClaim := { program := "ytaagkdmmdgajjaa", sum := "98608c274af3aab2f844876b98b1961ea3bb9f454b3f7235a382eb463c8cf9a2", func := "chargenet/chargenetlaw45.DirectoryAgain", spec := "directoryAgain", unfollowed := true, recurses := true, plainKeys := false, apart := false, narrowed := true }
def DirectoryAgainUptoSaid : Prop := directoryAgainUptoRow.holds Try.pinned (OpenSpec.upto directoryAgainSpec)

/-- 'chargenetlaw45.DirectoryNews', WHERE WHAT IT READS IS OF BULK AT MOST 1048576: true; the input reads as it did. -/
def directoryNewsUptoRow : OpenClaim := { program := "ytaagkdmmdgajjaa", sum := "98608c274af3aab2f844876b98b1961ea3bb9f454b3f7235a382eb463c8cf9a2", func := "chargenet/chargenetlaw45.DirectoryNews", spec := "directoryNews", unfollowed := true, recurses := true, plainKeys := false, apart := false, narrowed := true }
def DirectoryNewsUptoSaid : Prop := directoryNewsUptoRow.holds Try.pinned (OpenSpec.upto directoryNewsSpec)

/-- 'chargenetlaw45.DirectoryAgree', WHERE WHAT IT READS IS OF BULK AT MOST 1048576: true; the input reads as it did. -/
def directoryAgreeUptoRow : OpenClaim := { program := "ytaagkdmmdgajjaa", sum := "98608c274af3aab2f844876b98b1961ea3bb9f454b3f7235a382eb463c8cf9a2", func := "chargenet/chargenetlaw45.DirectoryAgree", spec := "directoryAgree", unfollowed := true, recurses := true, plainKeys := false, apart := false, narrowed := true }
def DirectoryAgreeUptoSaid : Prop := directoryAgreeUptoRow.holds Try.pinned (OpenSpec.upto directoryAgreeSpec)

end Rows
end Go.Proofs.Ytaagkdmmdgajjaa
