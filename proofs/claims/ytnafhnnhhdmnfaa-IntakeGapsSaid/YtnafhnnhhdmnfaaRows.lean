/-
  No cell of these rows narrows 'for every input' (looked for: loops, veiled, ifaces, maps, wideKeys, modest, calm, conditions, laid).
  DERIVED. THE GIVEN ROWS OF THIS SEAT. 6 by the template 'for every input the law returns true; each argument reads behind the call as it read before'; 0 by the template 'total and deterministic' (their statements: YtnafhnnhhdmnfaaTotals.lean).
  GIVEN WITH THE SEED: the statements are not yours to turn. If you find one false, say at which input.
  Laid BY PROGRAM, IN A SANDBOX (cutbox-rows.mjs): the forced cells as the released guide's own fill.sh prints them over the translation 9c058a21ab343c05… (all of the seat's roots in one cut). By AI agents, Wed Nov 11 2026. No macro, syntax, notation, axiom, sorry.
-/
import Derived.Test.YtnafhnnhhdmnfaaChecked
import GoSem.Claim
import GoSem.ClaimJoined
import GoSem.ClaimMapViews
import Derived.JoinedTies
import Derived.KernelRfl
namespace Go.Proofs.Ytnafhnnhhdmnfaa
/- THE CELL 'sum', in the pinned program and in every row, IS THE sha256 OF THE DUMP (.gsa) THAT YtnafhnnhhdmnfaaProg.lean LOADS. Nothing in Lean hashes anything: it is a label: what it is worth is what the hold of that sum in a sandbox is worth. -/
noncomputable def Try.pinned : Pinned := { name := "ytnafhnnhhdmnfaa", sum := "9c058a21ab343c05d47f06191c9b0f8d24ee345e59d06f043c0d5abe1b2d6cdf", checked := Try.checked }
namespace Rows
def none {H : Type} : Left H := { results := [], args := [] }

/-- 'chargenetlaw36.IntakeValids': WHATEVER THE INPUT: true; the input reads as it did. -/
def intakeValidsSpec : ChangeSpec := { name := "intakeValids", fn := fun _ => fun
  | [d] => { results := [.lit (.bool true)], args := [d] }
  | _ => none }
def intakeValidsRow : OpenClaim := { program := "ytnafhnnhhdmnfaa", sum := "9c058a21ab343c05d47f06191c9b0f8d24ee345e59d06f043c0d5abe1b2d6cdf", func := "chargenet/chargenetlaw36.IntakeValids", spec := "intakeValids", inPlace := ["internal/bytealg.abigen_runtime_cmpstring"], unfollowed := true, recurses := true, plainKeys := false, apart := false }
def IntakeValidsSaid : Prop := intakeValidsRow.holds Try.pinned (OpenSpec.ofChange intakeValidsSpec)

/-- ITS FALSE NEIGHBOUR: 'it returns false'. Refute it at one input. -/
def intakeValidsWrong : ChangeSpec := { name := "intakeValids", fn := fun _ => fun
  | [d] => { results := [.lit (.bool false)], args := [d] }
  | _ => none }
def IntakeValidsWrongFalsely : Prop := intakeValidsRow.holds Try.pinned (OpenSpec.ofChange intakeValidsWrong)

/-- 'chargenetlaw36.IntakePuts': WHATEVER THE INPUT: true; the input reads as it did. -/
def intakePutsSpec : ChangeSpec := { name := "intakePuts", fn := fun _ => fun
  | [d1, d2] => { results := [.lit (.bool true)], args := [d1, d2] }
  | _ => none }
def intakePutsRow : OpenClaim := { program := "ytnafhnnhhdmnfaa", sum := "9c058a21ab343c05d47f06191c9b0f8d24ee345e59d06f043c0d5abe1b2d6cdf", func := "chargenet/chargenetlaw36.IntakePuts", spec := "intakePuts", inPlace := ["internal/bytealg.abigen_runtime_cmpstring"], unfollowed := true, recurses := true, plainKeys := false, apart := false }
def IntakePutsSaid : Prop := intakePutsRow.holds Try.pinned (OpenSpec.ofChange intakePutsSpec)

/-- ITS FALSE NEIGHBOUR: 'it returns false'. Refute it at one input. -/
def intakePutsWrong : ChangeSpec := { name := "intakePuts", fn := fun _ => fun
  | [d1, d2] => { results := [.lit (.bool false)], args := [d1, d2] }
  | _ => none }
def IntakePutsWrongFalsely : Prop := intakePutsRow.holds Try.pinned (OpenSpec.ofChange intakePutsWrong)

/-- 'chargenetlaw36.IntakeFinds': WHATEVER THE INPUT: true; the input reads as it did. -/
def intakeFindsSpec : ChangeSpec := { name := "intakeFinds", fn := fun _ => fun
  | [d1, d2, d3] => { results := [.lit (.bool true)], args := [d1, d2, d3] }
  | _ => none }
def intakeFindsRow : OpenClaim := { program := "ytnafhnnhhdmnfaa", sum := "9c058a21ab343c05d47f06191c9b0f8d24ee345e59d06f043c0d5abe1b2d6cdf", func := "chargenet/chargenetlaw36.IntakeFinds", spec := "intakeFinds", inPlace := ["internal/bytealg.abigen_runtime_cmpstring"], unfollowed := true, recurses := true, plainKeys := false, apart := false }
def IntakeFindsSaid : Prop := intakeFindsRow.holds Try.pinned (OpenSpec.ofChange intakeFindsSpec)

/-- ITS FALSE NEIGHBOUR: 'it returns false'. Refute it at one input. -/
def intakeFindsWrong : ChangeSpec := { name := "intakeFinds", fn := fun _ => fun
  | [d1, d2, d3] => { results := [.lit (.bool false)], args := [d1, d2, d3] }
  | _ => none }
def IntakeFindsWrongFalsely : Prop := intakeFindsRow.holds Try.pinned (OpenSpec.ofChange intakeFindsWrong)

/-- 'chargenetlaw36.IntakeOrders': WHATEVER THE INPUT: true; the input reads as it did. -/
def intakeOrdersSpec : ChangeSpec := { name := "intakeOrders", fn := fun _ => fun
  | [d1, d2] => { results := [.lit (.bool true)], args := [d1, d2] }
  | _ => none }
def intakeOrdersRow : OpenClaim := { program := "ytnafhnnhhdmnfaa", sum := "9c058a21ab343c05d47f06191c9b0f8d24ee345e59d06f043c0d5abe1b2d6cdf", func := "chargenet/chargenetlaw36.IntakeOrders", spec := "intakeOrders", inPlace := ["internal/bytealg.abigen_runtime_cmpstring"], unfollowed := true, recurses := true, plainKeys := false, apart := false }
def IntakeOrdersSaid : Prop := intakeOrdersRow.holds Try.pinned (OpenSpec.ofChange intakeOrdersSpec)

/-- ITS FALSE NEIGHBOUR: 'it returns false'. Refute it at one input. -/
def intakeOrdersWrong : ChangeSpec := { name := "intakeOrders", fn := fun _ => fun
  | [d1, d2] => { results := [.lit (.bool false)], args := [d1, d2] }
  | _ => none }
def IntakeOrdersWrongFalsely : Prop := intakeOrdersRow.holds Try.pinned (OpenSpec.ofChange intakeOrdersWrong)

/-- 'chargenetlaw36.IntakeParts': WHATEVER THE INPUT: true; the input reads as it did. -/
def intakePartsSpec : ChangeSpec := { name := "intakeParts", fn := fun _ => fun
  | [d] => { results := [.lit (.bool true)], args := [d] }
  | _ => none }
def intakePartsRow : OpenClaim := { program := "ytnafhnnhhdmnfaa", sum := "9c058a21ab343c05d47f06191c9b0f8d24ee345e59d06f043c0d5abe1b2d6cdf", func := "chargenet/chargenetlaw36.IntakeParts", spec := "intakeParts", inPlace := ["internal/bytealg.abigen_runtime_cmpstring"], unfollowed := true, recurses := true, plainKeys := false, apart := false }
def IntakePartsSaid : Prop := intakePartsRow.holds Try.pinned (OpenSpec.ofChange intakePartsSpec)

/-- ITS FALSE NEIGHBOUR: 'it returns false'. Refute it at one input. -/
def intakePartsWrong : ChangeSpec := { name := "intakeParts", fn := fun _ => fun
  | [d] => { results := [.lit (.bool false)], args := [d] }
  | _ => none }
def IntakePartsWrongFalsely : Prop := intakePartsRow.holds Try.pinned (OpenSpec.ofChange intakePartsWrong)

/-- 'chargenetlaw36.IntakeGaps': WHATEVER THE INPUT: true; the input reads as it did. -/
def intakeGapsSpec : ChangeSpec := { name := "intakeGaps", fn := fun _ => fun
  | [d1, d2] => { results := [.lit (.bool true)], args := [d1, d2] }
  | _ => none }
def intakeGapsRow : OpenClaim := { program := "ytnafhnnhhdmnfaa", sum := "9c058a21ab343c05d47f06191c9b0f8d24ee345e59d06f043c0d5abe1b2d6cdf", func := "chargenet/chargenetlaw36.IntakeGaps", spec := "intakeGaps", inPlace := ["internal/bytealg.abigen_runtime_cmpstring"], unfollowed := true, recurses := true, plainKeys := false, apart := false }
def IntakeGapsSaid : Prop := intakeGapsRow.holds Try.pinned (OpenSpec.ofChange intakeGapsSpec)

/-- ITS FALSE NEIGHBOUR: 'it returns false'. Refute it at one input. -/
def intakeGapsWrong : ChangeSpec := { name := "intakeGaps", fn := fun _ => fun
  | [d1, d2] => { results := [.lit (.bool false)], args := [d1, d2] }
  | _ => none }
def IntakeGapsWrongFalsely : Prop := intakeGapsRow.holds Try.pinned (OpenSpec.ofChange intakeGapsWrong)

/- THE SECOND FORM. 'bulk': how many values and letters a reading holds, each counted each time it is reached (what is shared counts as often as it is met; a slice's spare places count too). A statement '..UptoSaid' is the law's where the arguments, and the package variables that the reading takes, are together of bulk at most 1048576: NARROWER than '..Said'. Prove '..Said' where nothing that the law and all that it calls make is longer than what came in: it says more and counts as full. Else prove '..UptoSaid'. A law counts once. -/
mutual
def uptoBulk {H : Type} : DataW H → Nat
  | .lit (.string bytes) => bytes.length + 1
  | .lit _ => 1
  | .nil => 1
  | .ptr d => uptoBulk d + 1
  | .slice elems spare => uptoBulkAll elems + uptoBulkAll spare + 1
  | .agg parts => uptoBulkAll parts + 1
  | .iface _ d => uptoBulk d + 1
  | .map entries => uptoBulkEntries entries + 1
  | .held _ => 1
def uptoBulkAll {H : Type} : List (DataW H) → Nat
  | [] => 0
  | d :: r => uptoBulk d + uptoBulkAll r
def uptoBulkEntries {H : Type} : List (Lit × DataW H) → Nat
  | [] => 0
  | x :: r => uptoBulkEntry x + uptoBulkEntries r
def uptoBulkEntry {H : Type} : Lit × DataW H → Nat
  | (.string bytes, d) => bytes.length + uptoBulk d + 1
  | (_, d) => uptoBulk d + 1
 end
def uptoSmall : (H : Type) → List (DataW H) → Bool := fun _ ds => decide (uptoBulkAll ds ≤ 1048576)
def OpenSpec.upto (s : _root_.Go.ChangeSpec) : _root_.Go.OpenSpec := { _root_.Go.OpenSpec.ofChange s with cond := some uptoSmall }

/-- 'chargenetlaw36.IntakeValids', WHERE WHAT IT READS IS OF BULK AT MOST 1048576: true; the input reads as it did. -/
def intakeValidsUptoRow : OpenClaim := { program := "ytnafhnnhhdmnfaa", sum := "9c058a21ab343c05d47f06191c9b0f8d24ee345e59d06f043c0d5abe1b2d6cdf", func := "chargenet/chargenetlaw36.IntakeValids", spec := "intakeValids", inPlace := ["internal/bytealg.abigen_runtime_cmpstring"], unfollowed := true, recurses := true, plainKeys := false, apart := false, narrowed := true }
def IntakeValidsUptoSaid : Prop := intakeValidsUptoRow.holds Try.pinned (OpenSpec.upto intakeValidsSpec)

/-- 'chargenetlaw36.IntakePuts', WHERE WHAT IT READS IS OF BULK AT MOST 1048576: true; the input reads as it did. -/
def intakePutsUptoRow : OpenClaim := { program := "ytnafhnnhhdmnfaa", sum := "9c058a21ab343c05d47f06191c9b0f8d24ee345e59d06f043c0d5abe1b2d6cdf", func := "chargenet/chargenetlaw36.IntakePuts", spec := "intakePuts", inPlace := ["internal/bytealg.abigen_runtime_cmpstring"], unfollowed := true, recurses := true, plainKeys := false, apart := false, narrowed := true }
def IntakePutsUptoSaid : Prop := intakePutsUptoRow.holds Try.pinned (OpenSpec.upto intakePutsSpec)

/-- 'chargenetlaw36.IntakeFinds', WHERE WHAT IT READS IS OF BULK AT MOST 1048576: true; the input reads as it did. -/
def intakeFindsUptoRow : OpenClaim := { program := "ytnafhnnhhdmnfaa", sum := "9c058a21ab343c05d47f06191c9b0f8d24ee345e59d06f043c0d5abe1b2d6cdf", func := "chargenet/chargenetlaw36.IntakeFinds", spec := "intakeFinds", inPlace := ["internal/bytealg.abigen_runtime_cmpstring"], unfollowed := true, recurses := true, plainKeys := false, apart := false, narrowed := true }
def IntakeFindsUptoSaid : Prop := intakeFindsUptoRow.holds Try.pinned (OpenSpec.upto intakeFindsSpec)

/-- 'chargenetlaw36.IntakeOrders', WHERE WHAT IT READS IS OF BULK AT MOST 1048576: true; the input reads as it did. -/
def intakeOrdersUptoRow : OpenClaim := { program := "ytnafhnnhhdmnfaa", sum := "9c058a21ab343c05d47f06191c9b0f8d24ee345e59d06f043c0d5abe1b2d6cdf", func := "chargenet/chargenetlaw36.IntakeOrders", spec := "intakeOrders", inPlace := ["internal/bytealg.abigen_runtime_cmpstring"], unfollowed := true, recurses := true, plainKeys := false, apart := false, narrowed := true }
def IntakeOrdersUptoSaid : Prop := intakeOrdersUptoRow.holds Try.pinned (OpenSpec.upto intakeOrdersSpec)

/-- 'chargenetlaw36.IntakeParts', WHERE WHAT IT READS IS OF BULK AT MOST 1048576: true; the input reads as it did. -/
def intakePartsUptoRow : OpenClaim := { program := "ytnafhnnhhdmnfaa", sum := "9c058a21ab343c05d47f06191c9b0f8d24ee345e59d06f043c0d5abe1b2d6cdf", func := "chargenet/chargenetlaw36.IntakeParts", spec := "intakeParts", inPlace := ["internal/bytealg.abigen_runtime_cmpstring"], unfollowed := true, recurses := true, plainKeys := false, apart := false, narrowed := true }
def IntakePartsUptoSaid : Prop := intakePartsUptoRow.holds Try.pinned (OpenSpec.upto intakePartsSpec)

/-- 'chargenetlaw36.IntakeGaps', WHERE WHAT IT READS IS OF BULK AT MOST 1048576: true; the input reads as it did. -/
def intakeGapsUptoRow : OpenClaim := { program := "ytnafhnnhhdmnfaa", sum := "9c058a21ab343c05d47f06191c9b0f8d24ee345e59d06f043c0d5abe1b2d6cdf", func := "chargenet/chargenetlaw36.IntakeGaps", spec := "intakeGaps", inPlace := ["internal/bytealg.abigen_runtime_cmpstring"], unfollowed := true, recurses := true, plainKeys := false, apart := false, narrowed := true }
def IntakeGapsUptoSaid : Prop := intakeGapsUptoRow.holds Try.pinned (OpenSpec.upto intakeGapsSpec)

end Rows
end Go.Proofs.Ytnafhnnhhdmnfaa
