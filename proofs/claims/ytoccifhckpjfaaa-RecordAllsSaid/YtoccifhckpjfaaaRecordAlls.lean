/- For all events and every modulus the law RecordAlls returns true, and its arguments read as before. No conditions. -/
import Derived.Test.YtoccifhckpjfaaaJoin37b
namespace Go.Proofs.Ytoccifhckpjfaaa
set_option linter.all false
open Go.Idl Go.RowKit
set_option maxRecDepth 100000 in
theorem recordAlls_lifted (os : Os) (started : os.Started) (H : Type) (enc : TypeId × Value → H) :
    ReturnsInHanded {} Try.checked os 6 .any (Rows.recordAllsSpec.pre6 enc Try.prog Try.f6 Rows.recordAllsRow.domain false) (Rows.recordAllsSpec.post enc Try.prog Try.f6 false true false false) := by
  refine returnsInHanded_of_change (C := Try.checked) Try.own started (by kernel_rfl) Try.func6
    (ChangeSpec.witness6 (enc := enc) (C := Try.checked) false ⟨#[], #[.slice none 0 0, .int .i64 0], []⟩ 8 (by kernel_rfl) (by kernel_rfl) (by kernel_rfl) (by kernel_rfl)) ?_
  intro W base args ds gs before hval hW _ _
  obtain ⟨Φ, g, e1, e2, e3, e4, e5, e6⟩ := all37b
  refine law_calls (P := Try.prog) (n := 8) rfl (fun ds hl => ?_) rfl Try.underlying4 Try.laidOut (by kernel_rfl) (by kernel_rfl) (con6 g e1 e2 e3 e4 e5 e6) hval hW fun xs hs => ?_
  · match ds, hl with
    | [d0, d1], _ => rfl
  · obtain ⟨y, hy, hok⟩ := Reads.args (Reads.list (by kernel_rfl) (by kernel_rfl) rdEvD) (Reads.args (Reads.int (by kernel_rfl)) Reads.nil) xs hs
    exact FT_true hy (if_pos hok.1.1)
theorem recordAlls_holds : Rows.RecordAllsSaid :=
  OpenClaim.holds_of_wide 6 Try.f6 rfl rfl rfl rfl rfl rfl rfl ⟨rfl, rfl, rfl, rfl, rfl⟩ rfl rfl rfl rfl rfl (by kernel_rfl) Try.func6 (by kernel_rfl)
    (of_decide_eq_true (by kernel_rfl)) (by unfold Func.isWrapper; first | (rw [if_pos (by decide +kernel)]; kernel_rfl) | (rw [if_neg (by decide +kernel)]; exact ⟨rfl, rfl⟩))
    (fun os started H enc _ => recordAlls_lifted os started H enc)
end Go.Proofs.Ytoccifhckpjfaaa
