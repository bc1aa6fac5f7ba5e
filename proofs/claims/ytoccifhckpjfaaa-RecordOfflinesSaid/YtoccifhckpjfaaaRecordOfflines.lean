/- For all events, every modulus and either flag the law RecordOfflines returns true, and its arguments read as before. No conditions. -/
import Derived.Test.YtoccifhckpjfaaaJoin37
namespace Go.Proofs.Ytoccifhckpjfaaa
set_option linter.all false
open Go.Idl Go.RowKit
set_option maxRecDepth 100000 in
theorem recordOfflines_lifted (os : Os) (started : os.Started) (H : Type) (enc : TypeId × Value → H) :
    ReturnsInHanded {} Try.checked os 5 .any (Rows.recordOfflinesSpec.pre6 enc Try.prog Try.f5 Rows.recordOfflinesRow.domain false) (Rows.recordOfflinesSpec.post enc Try.prog Try.f5 false true false false) := by
  refine returnsInHanded_of_change (C := Try.checked) Try.own started (by kernel_rfl) Try.func5
    (ChangeSpec.witness6 (enc := enc) (C := Try.checked) false ⟨#[], #[.slice none 0 0, .int .i64 0, .bool false], []⟩ 8 (by kernel_rfl) (by kernel_rfl) (by kernel_rfl) (by kernel_rfl)) ?_
  intro W base args ds gs before hval hW _ _
  obtain ⟨Φ, g, e1, e2, e3, e4, e5⟩ := all37
  refine law_calls (P := Try.prog) (n := 8) rfl (fun ds hl => ?_) rfl Try.underlying4 Try.laidOut (by kernel_rfl) (by kernel_rfl) (con5 g e1 e2 e4 e5) hval hW fun xs hs => ?_
  · match ds, hl with
    | [d0, d1, d2], _ => rfl
  · obtain ⟨y, hy, hok⟩ := Reads.args (Reads.list (by kernel_rfl) (by kernel_rfl) rdEvD) (Reads.args (Reads.int (by kernel_rfl)) (Reads.args (Reads.bool (by kernel_rfl)) Reads.nil)) xs hs
    exact FT_true hy (if_pos hok.1.1)
theorem recordOfflines_holds : Rows.RecordOfflinesSaid :=
  OpenClaim.holds_of_wide 5 Try.f5 rfl rfl rfl rfl rfl rfl rfl ⟨rfl, rfl, rfl, rfl, rfl⟩ rfl rfl rfl rfl rfl (by kernel_rfl) Try.func5 (by kernel_rfl)
    (of_decide_eq_true (by kernel_rfl)) (by unfold Func.isWrapper; first | (rw [if_pos (by decide +kernel)]; kernel_rfl) | (rw [if_neg (by decide +kernel)]; exact ⟨rfl, rfl⟩))
    (fun os started H enc _ => recordOfflines_lifted os started H enc)
end Go.Proofs.Ytoccifhckpjfaaa
