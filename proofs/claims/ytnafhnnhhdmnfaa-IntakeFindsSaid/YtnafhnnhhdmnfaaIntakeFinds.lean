/- For every list of events and all strings the law IntakeFinds returns true, and its arguments read as before. No conditions. -/
import Derived.Test.YtnafhnnhhdmnfaaLaw36c
namespace Go.Proofs.Ytnafhnnhhdmnfaa
set_option linter.all false
open Go.Idl Go.RowKit
set_option maxRecDepth 100000 in
theorem intakeFinds_lifted (os : Os) (started : os.Started) (H : Type) (enc : TypeId × Value → H) :
    ReturnsInHanded {} Try.checked os 5 .any (Rows.intakeFindsSpec.pre6 enc Try.prog Try.f5 Rows.intakeFindsRow.domain false) (Rows.intakeFindsSpec.post enc Try.prog Try.f5 false true false false) := by
  refine returnsInHanded_of_change (C := Try.checked) Try.own started (by kernel_rfl) Try.func5
    (ChangeSpec.witness6 (enc := enc) (C := Try.checked) false ⟨#[], #[.slice none 0 0, .string ⟨#[]⟩, .string ⟨#[]⟩], []⟩ 8 (by kernel_rfl) (by kernel_rfl) (by kernel_rfl) (by kernel_rfl)) ?_
  intro W base args ds gs before hval hW _ _
  skip
  refine law_calls (P := Try.prog) (n := 8) rfl (fun ds hl => ?_) rfl Try.underlying4 Try.laidOut (by kernel_rfl) (by kernel_rfl) (C5) hval hW fun xs hs => ?_
  · match ds, hl with
    | [d0, d1, d2], _ => rfl
  · obtain ⟨y, hy, hok⟩ := Reads.args (Reads.list (by kernel_rfl) (by kernel_rfl) rdEvD) (Reads.args (Reads.str (by kernel_rfl)) (Reads.args (Reads.str (by kernel_rfl)) Reads.nil)) xs hs
    exact FT_true hy (rfl)
theorem intakeFinds_holds : Rows.IntakeFindsSaid :=
  OpenClaim.holds_of_wide 5 Try.f5 rfl rfl rfl rfl rfl rfl rfl ⟨rfl, rfl, rfl, rfl, rfl⟩ rfl rfl rfl rfl rfl (by kernel_rfl) Try.func5 (by kernel_rfl)
    (of_decide_eq_true (by kernel_rfl)) (by unfold Func.isWrapper; first | (rw [if_pos (by decide +kernel)]; kernel_rfl) | (rw [if_neg (by decide +kernel)]; exact ⟨rfl, rfl⟩))
    (fun os started H enc _ => intakeFinds_lifted os started H enc)
end Go.Proofs.Ytnafhnnhhdmnfaa
