/- For all numbers the law IntakeGaps returns true. No conditions. -/
import Derived.Test.YtnafhnnhhdmnfaaLaw36f
namespace Go.Proofs.Ytnafhnnhhdmnfaa
set_option linter.all false
open Go.Idl Go.RowKit
set_option maxRecDepth 100000 in
theorem intakeGaps_lifted (os : Os) (started : os.Started) (H : Type) (enc : TypeId × Value → H) :
    ReturnsInHanded {} Try.checked os 8 .any (Rows.intakeGapsSpec.pre6 enc Try.prog Try.f8 Rows.intakeGapsRow.domain false) (Rows.intakeGapsSpec.post enc Try.prog Try.f8 false true false false) := by
  refine returnsInHanded_of_change (C := Try.checked) Try.own started (by kernel_rfl) Try.func8
    (ChangeSpec.witness6 (enc := enc) (C := Try.checked) false ⟨#[], #[.int .u16 0, .int .u16 0], []⟩ 8 (by kernel_rfl) (by kernel_rfl) (by kernel_rfl) (by kernel_rfl)) ?_
  intro W base args ds gs before hval hW _ _
  skip
  refine law_calls (P := Try.prog) (n := 8) rfl (fun ds hl => ?_) rfl Try.underlying4 Try.laidOut (by kernel_rfl) (by kernel_rfl) (C8) hval hW fun xs hs => ?_
  · match ds, hl with
    | [d0, d1], _ => rfl
  · obtain ⟨y, hy, hok⟩ := Reads.args (Reads.kint (k := .u16) (by kernel_rfl)) (Reads.args (Reads.kint (k := .u16) (by kernel_rfl)) Reads.nil) xs hs
    exact FT_true hy (rfl)
theorem intakeGaps_holds : Rows.IntakeGapsSaid :=
  OpenClaim.holds_of_wide 8 Try.f8 rfl rfl rfl rfl rfl rfl rfl ⟨rfl, rfl, rfl, rfl, rfl⟩ rfl rfl rfl rfl rfl (by kernel_rfl) Try.func8 (by kernel_rfl)
    (of_decide_eq_true (by kernel_rfl)) (by unfold Func.isWrapper; first | (rw [if_pos (by decide +kernel)]; kernel_rfl) | (rw [if_neg (by decide +kernel)]; exact ⟨rfl, rfl⟩))
    (fun os started H enc _ => intakeGaps_lifted os started H enc)
end Go.Proofs.Ytnafhnnhhdmnfaa
