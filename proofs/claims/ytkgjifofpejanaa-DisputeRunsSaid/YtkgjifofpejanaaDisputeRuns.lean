/- For every record, claim, time and list of moves the law DisputeRuns returns true, and its arguments read as before. No conditions. -/
import Derived.Test.YtkgjifofpejanaaJoin47a
namespace Go.Proofs.Ytkgjifofpejanaa
set_option linter.all false
open Go.Idl Go.RowKit
set_option maxRecDepth 100000 in
theorem disputeRuns_lifted (os : Os) (started : os.Started) (H : Type) (enc : TypeId × Value → H) :
    ReturnsInHanded {} Try.checked os 6 .any (Rows.disputeRunsSpec.pre6 enc Try.prog Try.f6 Rows.disputeRunsRow.domain false) (Rows.disputeRunsSpec.post enc Try.prog Try.f6 false true false false) := by
  refine returnsInHanded_of_change (C := Try.checked) Try.own started (by kernel_rfl) Try.func6
    (ChangeSpec.witness6 (enc := enc) (C := Try.checked) false ⟨#[], #[.agg #[.string ⟨#[]⟩, .string ⟨#[]⟩, .string ⟨#[]⟩, .string ⟨#[]⟩, .int .i64 0, .int .i64 0, .int .i64 0, .int .i64 0, .string ⟨#[]⟩, .string ⟨#[]⟩, .slice none 0 0, .int .i64 0, .bool false, .string ⟨#[]⟩], .int .i64 0, .int .i64 0, .slice none 0 0], []⟩ 8 (by kernel_rfl) (by kernel_rfl) (by kernel_rfl) (by kernel_rfl)) ?_
  intro W base args ds gs before hval hW _ _
  obtain ⟨Φ, g, h1, h2, h3, h4, h5, h6, h7, h8, h9, h10⟩ := all47
  refine law_calls (P := Try.prog) (n := 8) rfl (fun ds hl => ?_) rfl Try.underlying4 Try.laidOut (by kernel_rfl) (by kernel_rfl) (con6 g h7 h2 h8 h5 h10) hval hW fun xs hs => ?_
  · match ds, hl with
    | [d0, d1, d2, d3], _ => rfl
  · obtain ⟨y, hy, hok⟩ := (Reads.args rdCdrD (Reads.args (Reads.int (by kernel_rfl)) (Reads.args (Reads.int (by kernel_rfl)) (Reads.args (Reads.list (by kernel_rfl) (by kernel_rfl) rdMoveD) Reads.nil)))) xs hs
    exact FT_true hy (if_pos hok.1.2.2.2.2.2.2.2.2.2.2.2.1.2)
theorem disputeRuns_holds : Rows.DisputeRunsSaid :=
  OpenClaim.holds_of_wide 6 Try.f6 rfl rfl rfl rfl rfl rfl rfl ⟨rfl, rfl, rfl, rfl, rfl⟩ rfl rfl rfl rfl rfl (by kernel_rfl) Try.func6 (by kernel_rfl)
    (of_decide_eq_true (by kernel_rfl)) (by unfold Func.isWrapper; first | (rw [if_pos (by decide +kernel)]; kernel_rfl) | (rw [if_neg (by decide +kernel)]; exact ⟨rfl, rfl⟩))
    (fun os started H enc _ => disputeRuns_lifted os started H enc)
end Go.Proofs.Ytkgjifofpejanaa
