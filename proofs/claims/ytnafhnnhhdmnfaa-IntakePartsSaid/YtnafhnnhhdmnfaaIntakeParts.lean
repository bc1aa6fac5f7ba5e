/- For every list of events the law IntakeParts returns true, and its argument reads as before. No conditions. -/
import Derived.Test.YtnafhnnhhdmnfaaLaw36e
namespace Go.Proofs.Ytnafhnnhhdmnfaa
set_option linter.all false
open Go.Idl Go.RowKit
set_option maxRecDepth 100000 in
theorem intakeParts_lifted (os : Os) (started : os.Started) (H : Type) (enc : TypeId × Value → H) :
    ReturnsInHanded {} Try.checked os 7 .any (Rows.intakePartsSpec.pre6 enc Try.prog Try.f7 Rows.intakePartsRow.domain false) (Rows.intakePartsSpec.post enc Try.prog Try.f7 false true false false) := by
  refine returnsInHanded_of_change (C := Try.checked) Try.own started (by kernel_rfl) Try.func7
    (ChangeSpec.witness6 (enc := enc) (C := Try.checked) false ⟨#[], #[.slice none 0 0], []⟩ 8 (by kernel_rfl) (by kernel_rfl) (by kernel_rfl) (by kernel_rfl)) ?_
  intro W base args ds gs before hval hW _ _
  skip
  refine law_calls (P := Try.prog) (n := 8) rfl (fun ds hl => ?_) rfl Try.underlying4 Try.laidOut (by kernel_rfl) (by kernel_rfl) (C7) hval hW fun xs hs => ?_
  · match ds, hl with
    | [d0], _ => rfl
  · obtain ⟨y, hy, hok⟩ := Reads.args (Reads.list (by kernel_rfl) (by kernel_rfl) rdEvD) Reads.nil xs hs
    exact FT_true hy (rfl)
theorem intakeParts_holds : Rows.IntakePartsSaid :=
  OpenClaim.holds_of_wide 7 Try.f7 rfl rfl rfl rfl rfl rfl rfl ⟨rfl, rfl, rfl, rfl, rfl⟩ rfl rfl rfl rfl rfl (by kernel_rfl) Try.func7 (by kernel_rfl)
    (of_decide_eq_true (by kernel_rfl)) (by unfold Func.isWrapper; first | (rw [if_pos (by decide +kernel)]; kernel_rfl) | (rw [if_neg (by decide +kernel)]; exact ⟨rfl, rfl⟩))
    (fun os started H enc _ => intakeParts_lifted os started H enc)
end Go.Proofs.Ytnafhnnhhdmnfaa
