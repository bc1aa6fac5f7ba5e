/-
  No cell of these rows narrows 'for every input' (looked for: loops, veiled, ifaces, maps, wideKeys, modest, calm, conditions, laid).
  DERIVED. THE GIVEN ROWS OF THIS SEAT. 3 by the template 'for every input the law returns true; each argument reads behind the call as it read before'; 0 by the template 'total and deterministic' (their statements: YtikmficjcbkhcaaTotals.lean).
  GIVEN WITH THE SEED: the statements are not yours to turn. If you find one false, say at which input.
  Laid BY PROGRAM, IN A SANDBOX (cutbox-rows.mjs): the forced cells as the released guide's own fill.sh prints them over the translation 9f1fe32e8940aca3… (all of the seat's roots in one cut). By AI agents, Wed Nov 11 2026. No macro, syntax, notation, axiom, sorry.
-/
import Derived.Test.YtikmficjcbkhcaaChecked
import GoSem.Claim
import GoSem.ClaimJoined
import GoSem.ClaimMapViews
import Derived.JoinedTies
import Derived.KernelRfl
namespace Go.Proofs.Ytikmficjcbkhcaa
/- THE CELL 'sum', in the pinned program and in every row, IS THE sha256 OF THE DUMP (.gsa) THAT YtikmficjcbkhcaaProg.lean LOADS. Nothing in Lean hashes anything: it is a label: what it is worth is what the hold of that sum in a sandbox is worth. -/
noncomputable def Try.pinned : Pinned := { name := "ytikmficjcbkhcaa", sum := "9f1fe32e8940aca3ba96d5ead16b21318931664aae66257b106c4f17f8d84410", checked := Try.checked }
namespace Rows
def none {H : Type} : Left H := { results := [], args := [] }

/-- 'chargenetlaw48.RoamingValid': WHATEVER THE INPUT: true; the input reads as it did. -/
def roamingValidSpec : ChangeSpec := { name := "roamingValid", fn := fun _ => fun
  | [d] => { results := [.lit (.bool true)], args := [d] }
  | _ => none }
def roamingValidRow : OpenClaim := { program := "ytikmficjcbkhcaa", sum := "9f1fe32e8940aca3ba96d5ead16b21318931664aae66257b106c4f17f8d84410", func := "chargenet/chargenetlaw48.RoamingValid", spec := "roamingValid", unfollowed := true, recurses := true, plainKeys := false, apart := false }
def RoamingValidSaid : Prop := roamingValidRow.holds Try.pinned (OpenSpec.ofChange roamingValidSpec)

/-- ITS FALSE NEIGHBOUR: 'it returns false'. Refute it at one input. -/
def roamingValidWrong : ChangeSpec := { name := "roamingValid", fn := fun _ => fun
  | [d] => { results := [.lit (.bool false)], args := [d] }
  | _ => none }
def RoamingValidWrongFalsely : Prop := roamingValidRow.holds Try.pinned (OpenSpec.ofChange roamingValidWrong)

/-- 'chargenetlaw48.RoamingNew': WHATEVER THE INPUT: true; the input reads as it did. -/
def roamingNewSpec : ChangeSpec := { name := "roamingNew", fn := fun _ => fun
  | [d] => { results := [.lit (.bool true)], args := [d] }
  | _ => none }
def roamingNewRow : OpenClaim := { program := "ytikmficjcbkhcaa", sum := "9f1fe32e8940aca3ba96d5ead16b21318931664aae66257b106c4f17f8d84410", func := "chargenet/chargenetlaw48.RoamingNew", spec := "roamingNew", unfollowed := true, recurses := true, plainKeys := false, apart := false }
def RoamingNewSaid : Prop := roamingNewRow.holds Try.pinned (OpenSpec.ofChange roamingNewSpec)

/-- ITS FALSE NEIGHBOUR: 'it returns false'. Refute it at one input. -/
def roamingNewWrong : ChangeSpec := { name := "roamingNew", fn := fun _ => fun
  | [d] => { results := [.lit (.bool false)], args := [d] }
  | _ => none }
def RoamingNewWrongFalsely : Prop := roamingNewRow.holds Try.pinned (OpenSpec.ofChange roamingNewWrong)

/-- 'chargenetlaw48.RoamingAgrees': WHATEVER THE INPUT: true; the input reads as it did. -/
def roamingAgreesSpec : ChangeSpec := { name := "roamingAgrees", fn := fun _ => fun
  | [d1, d2] => { results := [.lit (.bool true)], args := [d1, d2] }
  | _ => none }
def roamingAgreesRow : OpenClaim := { program := "ytikmficjcbkhcaa", sum := "9f1fe32e8940aca3ba96d5ead16b21318931664aae66257b106c4f17f8d84410", func := "chargenet/chargenetlaw48.RoamingAgrees", spec := "roamingAgrees", unfollowed := true, recurses := true, plainKeys := false, apart := false }
def RoamingAgreesSaid : Prop := roamingAgreesRow.holds Try.pinned (OpenSpec.ofChange roamingAgreesSpec)

/-- ITS FALSE NEIGHBOUR: 'it returns false'. Refute it at one input. -/
def roamingAgreesWrong : ChangeSpec := { name := "roamingAgrees", fn := fun _ => fun
  | [d1, d2] => { results := [.lit (.bool false)], args := [d1, d2] }
  | _ => none }
def RoamingAgreesWrongFalsely : Prop := roamingAgreesRow.holds Try.pinned (OpenSpec.ofChange roamingAgreesWrong)

/- THE SECOND FORM. 'bulk': how many values and letters a reading holds, each counted each time it is reached (what is shared counts as often as it is met; a slice's spare places count too). A statement '..UptoSaid' is the law's where the arguments, and the package variables that the reading takes, are together of bulk at most 1048576: NARROWER than '..Said'. Prove '..Said' where nothing that the law and all that it calls make is longer than what came in: it says more and counts as full. Else prove '..UptoSaid'. A law counts once. -/
mutual
def uptoBulk {H : Type} : DataW H → Nat
  | .lit (.string bytes) => bytes.length + 1
  | .lit _ => 1
  | .nil => 1
  | .ptr d => uptoBulk d + 1
  | .slice elems spare => uptoBulkAll elems + uptoBulkAll spare + 1
  | .agg parts => uptoBulkAll parts + 1
  | .iface _ d => uptoBulk d + 1
  | .map entries => uptoBulkEntries entries + 1
  | .held _ => 1
def uptoBulkAll {H : Type} : List (DataW H) → Nat
  | [] => 0
  | d :: r => uptoBulk d + uptoBulkAll r
def uptoBulkEntries {H : Type} : List (Lit × DataW H) → Nat
  | [] => 0
  | x :: r => uptoBulkEntry x + uptoBulkEntries r
def uptoBulkEntry {H : Type} : Lit × DataW H → Nat
  | (.string bytes, d) => bytes.length + uptoBulk d + 1
  | (_, d) => uptoBulk d + 1
 end
def uptoSmall : (H : Type) → List (DataW H) → Bool := fun _ ds => decide (uptoBulkAll ds ≤ 1048576)
def OpenSpec.upto (s : _root_.Go.ChangeSpec) : _root_.Go.OpenSpec := { _root_.Go.OpenSpec.ofChange s with cond := some uptoSmall }

/-- 'chargenetlaw48.RoamingValid', WHERE WHAT IT READS IS OF BULK AT MOST 1048576: true; the input reads as it did. -/
def roamingValidUptoRow : OpenClaim := { program := "ytikmficjcbkhcaa", sum := "9f1fe32e8940aca3ba96d5ead16b21318931664aae66257b106c4f17f8d84410", func := "chargenet/chargenetlaw48.RoamingValid", spec := "roamingValid", unfollowed := true, recurses := true, plainKeys := false, apart := false, narrowed := true }
def RoamingValidUptoSaid : Prop := roamingValidUptoRow.holds Try.pinned (OpenSpec.upto roamingValidSpec)

/-- 'chargenetlaw48.RoamingNew', WHERE WHAT IT READS IS OF BULK AT MOST 1048576: true; the input reads as it did. -/
def roamingNewUptoRow : OpenClaim := { program := "ytikmficjcbkhcaa", sum := "9f1fe32e8940aca3ba96d5ead16b21318931664aae66257b106c4f17f8d84410", func := "chargenet/chargenetlaw48.RoamingNew", spec := "roamingNew", unfollowed := true, recurses := true, plainKeys := false, apart := false, narrowed := true }
def RoamingNewUptoSaid : Prop := roamingNewUptoRow.holds Try.pinned (OpenSpec.upto roamingNewSpec)

/-- 'chargenetlaw48.RoamingAgrees', WHERE WHAT IT READS IS OF BULK AT MOST 1048576: true; the input reads as it did. -/
def roamingAgreesUptoRow : OpenClaim := { program := "ytikmficjcbkhcaa", sum := "9f1fe32e8940aca3ba96d5ead16b21318931664aae66257b106c4f17f8d84410", func := "chargenet/chargenetlaw48.RoamingAgrees", spec := "roamingAgrees", unfollowed := true, recurses := true, plainKeys := false, apart := false, narrowed := true }
def RoamingAgreesUptoSaid : Prop := roamingAgreesUptoRow.holds Try.pinned (OpenSpec.upto roamingAgreesSpec)

end Rows
end Go.Proofs.Ytikmficjcbkhcaa
