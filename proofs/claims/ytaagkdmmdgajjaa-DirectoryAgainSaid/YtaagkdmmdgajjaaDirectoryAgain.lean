/- For every party, all calls and all objects the law DirectoryAgain returns true, and its arguments read as before. No conditions. -/
import Derived.Test.YtaagkdmmdgajjaaJoin45b
namespace Go.Proofs.Ytaagkdmmdgajjaa
set_option linter.all false
open Go.Idl Go.RowKit
set_option maxRecDepth 100000 in
theorem directoryAgain_lifted (os : Os) (started : os.Started) (H : Type) (enc : TypeId × Value → H) :
    ReturnsInHanded {} Try.checked os 5 .any (Rows.directoryAgainSpec.pre6 enc Try.prog Try.f5 Rows.directoryAgainRow.domain false) (Rows.directoryAgainSpec.post enc Try.prog Try.f5 false true false false) := by
  refine returnsInHanded_of_change (C := Try.checked) Try.own started (by kernel_rfl) Try.func5
    (ChangeSpec.witness6 (enc := enc) (C := Try.checked) false ⟨#[], #[.string ⟨#[]⟩, .slice none 0 0, .slice none 0 0], []⟩ 8 (by kernel_rfl) (by kernel_rfl) (by kernel_rfl) (by kernel_rfl)) ?_
  intro W base args ds gs before hval hW _ _
  obtain ⟨Φ, g, e1, e2, e3, e4, e5, e6, e7, e8, e9, e10, e11, e12, e13, e14, _⟩ := all45
  refine law_calls (P := Try.prog) (n := 8) rfl (fun ds hl => ?_) rfl Try.underlying4 Try.laidOut (by kernel_rfl) (by kernel_rfl) (con5 g e1 e5 e2 e6 e14 e13) hval hW fun xs hs => ?_
  · match ds, hl with
    | [d0, d1, d2], _ => rfl
  · obtain ⟨y, hy, hok⟩ := Reads.args (Reads.str (by kernel_rfl)) (Reads.args (Reads.list (by kernel_rfl) (by kernel_rfl) rdOpD) (Reads.args (Reads.list (by kernel_rfl) (by kernel_rfl) rdObjD) Reads.nil)) xs hs
    exact FT_true hy (if_pos ⟨ops_ok hok.2.1, hok.2.2.1.1⟩)
theorem directoryAgain_holds : Rows.DirectoryAgainSaid :=
  OpenClaim.holds_of_wide 5 Try.f5 rfl rfl rfl rfl rfl rfl rfl ⟨rfl, rfl, rfl, rfl, rfl⟩ rfl rfl rfl rfl rfl (by kernel_rfl) Try.func5 (by kernel_rfl)
    (of_decide_eq_true (by kernel_rfl)) (by unfold Func.isWrapper; first | (rw [if_pos (by decide +kernel)]; kernel_rfl) | (rw [if_neg (by decide +kernel)]; exact ⟨rfl, rfl⟩))
    (fun os started H enc _ => directoryAgain_lifted os started H enc)
end Go.Proofs.Ytaagkdmmdgajjaa
