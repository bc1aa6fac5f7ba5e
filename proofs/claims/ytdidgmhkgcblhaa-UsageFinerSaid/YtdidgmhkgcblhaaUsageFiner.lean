/- For all readings, every modulus and every further reading the law UsageFiner returns true, and its arguments read as before. No conditions. -/
import Derived.Test.YtdidgmhkgcblhaaJoin20
namespace Go.Proofs.Ytdidgmhkgcblhaa
set_option linter.all false
open Go.Idl Go.RowKit
set_option maxRecDepth 100000 in
theorem usageFiner_lifted (os : Os) (started : os.Started) (H : Type) (enc : TypeId × Value → H) :
    ReturnsInHanded {} Try.checked os 7 .any (Rows.usageFinerSpec.pre6 enc Try.prog Try.f7 Rows.usageFinerRow.domain false) (Rows.usageFinerSpec.post enc Try.prog Try.f7 false true false false) := by
  refine returnsInHanded_of_change (C := Try.checked) Try.own started (by kernel_rfl) Try.func7
    (ChangeSpec.witness6 (enc := enc) (C := Try.checked) false ⟨#[], #[.slice none 0 0, .int .i64 0, .int .u8 0, .int .u32 0], []⟩ 8 (by kernel_rfl) (by kernel_rfl) (by kernel_rfl) (by kernel_rfl)) ?_
  intro W base args ds gs before hval hW _ _
  obtain ⟨Φ, g, ⟨a1, a2, a3, a4, a5, a6, a7, a8⟩, ⟨b1, b2, b3, b4, b5, b6⟩, c1, c2⟩ := all20
  refine law_calls (P := Try.prog) (n := 8) rfl (fun ds hl => ?_) rfl Try.underlying4 Try.laidOut (by kernel_rfl) (by kernel_rfl) (con7 g c2 a3 a2 b6) hval hW fun xs hs => ?_
  · match ds, hl with
    | [d0, d1, d2, d3], _ => rfl
  · obtain ⟨y, hy, hok⟩ := Reads.args (Reads.list (by kernel_rfl) (by kernel_rfl) rdRdg) (Reads.args (Reads.int (by kernel_rfl)) (Reads.args (Reads.kint (by kernel_rfl)) (Reads.args (Reads.kint (by kernel_rfl)) Reads.nil))) xs hs
    exact FT_true hy (rfl)
theorem usageFiner_holds : Rows.UsageFinerSaid :=
  OpenClaim.holds_of_wide 7 Try.f7 rfl rfl rfl rfl rfl rfl rfl ⟨rfl, rfl, rfl, rfl, rfl⟩ rfl rfl rfl rfl rfl (by kernel_rfl) Try.func7 (by kernel_rfl)
    (of_decide_eq_true (by kernel_rfl)) (by unfold Func.isWrapper; first | (rw [if_pos (by decide +kernel)]; kernel_rfl) | (rw [if_neg (by decide +kernel)]; exact ⟨rfl, rfl⟩))
    (fun os started H enc _ => usageFiner_lifted os started H enc)
end Go.Proofs.Ytdidgmhkgcblhaa
