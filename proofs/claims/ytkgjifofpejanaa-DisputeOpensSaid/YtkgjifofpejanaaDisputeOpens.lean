/- For every record, name, claim and time the law DisputeOpens returns true, and its arguments read as before. No conditions. -/
import Derived.Test.YtkgjifofpejanaaJoin47a
namespace Go.Proofs.Ytkgjifofpejanaa
set_option linter.all false
open Go.Idl Go.RowKit
set_option maxRecDepth 100000 in
theorem disputeOpens_lifted (os : Os) (started : os.Started) (H : Type) (enc : TypeId × Value → H) :
    ReturnsInHanded {} Try.checked os 4 .any (Rows.disputeOpensSpec.pre6 enc Try.prog Try.f4 Rows.disputeOpensRow.domain false) (Rows.disputeOpensSpec.post enc Try.prog Try.f4 false true false false) := by
  refine returnsInHanded_of_change (C := Try.checked) Try.own started (by kernel_rfl) Try.func4
    (ChangeSpec.witness6 (enc := enc) (C := Try.checked) false ⟨#[], #[.agg #[.string ⟨#[]⟩, .string ⟨#[]⟩, .string ⟨#[]⟩, .string ⟨#[]⟩, .int .i64 0, .int .i64 0, .int .i64 0, .int .i64 0, .string ⟨#[]⟩, .string ⟨#[]⟩, .slice none 0 0, .int .i64 0, .bool false, .string ⟨#[]⟩], .string ⟨#[]⟩, .int .i64 0, .int .i64 0], []⟩ 8 (by kernel_rfl) (by kernel_rfl) (by kernel_rfl) (by kernel_rfl)) ?_
  intro W base args ds gs before hval hW _ _
  obtain ⟨Φ, g, h1, h2, h3, h4, h5, h6, h7, h8, h9, h10⟩ := all47
  refine law_calls (P := Try.prog) (n := 8) rfl (fun ds hl => ?_) rfl Try.underlying4 Try.laidOut (by kernel_rfl) (by kernel_rfl) (con4 g h7 h2 h3 h8 h9) hval hW fun xs hs => ?_
  · match ds, hl with
    | [d0, d1, d2, d3], _ => rfl
  · obtain ⟨y, hy, hok⟩ := (Reads.args rdCdrD (Reads.args (Reads.str (by kernel_rfl)) (Reads.args (Reads.int (by kernel_rfl)) (Reads.args (Reads.int (by kernel_rfl)) Reads.nil)))) xs hs
    exact FT_true hy (rfl)
theorem disputeOpens_holds : Rows.DisputeOpensSaid :=
  OpenClaim.holds_of_wide 4 Try.f4 rfl rfl rfl rfl rfl rfl rfl ⟨rfl, rfl, rfl, rfl, rfl⟩ rfl rfl rfl rfl rfl (by kernel_rfl) Try.func4 (by kernel_rfl)
    (of_decide_eq_true (by kernel_rfl)) (by unfold Func.isWrapper; first | (rw [if_pos (by decide +kernel)]; kernel_rfl) | (rw [if_neg (by decide +kernel)]; exact ⟨rfl, rfl⟩))
    (fun os started H enc _ => disputeOpens_lifted os started H enc)
end Go.Proofs.Ytkgjifofpejanaa
