/- For every name the law RoamingNew returns true, and its argument reads as before. No conditions. -/
import Derived.Test.YtikmficjcbkhcaaJoin48
namespace Go.Proofs.Ytikmficjcbkhcaa
set_option linter.all false
open Go.Idl Go.RowKit
set_option maxRecDepth 100000 in
theorem roamingNew_lifted (os : Os) (started : os.Started) (H : Type) (enc : TypeId × Value → H) :
    ReturnsInHanded {} Try.checked os 4 .any (Rows.roamingNewSpec.pre6 enc Try.prog Try.f4 Rows.roamingNewRow.domain false) (Rows.roamingNewSpec.post enc Try.prog Try.f4 false true false false) := by
  refine returnsInHanded_of_change (C := Try.checked) Try.own started (by kernel_rfl) Try.func4
    (ChangeSpec.witness6 (enc := enc) (C := Try.checked) false ⟨#[], #[.string ⟨#[]⟩], []⟩ 8 (by kernel_rfl) (by kernel_rfl) (by kernel_rfl) (by kernel_rfl)) ?_
  intro W base args ds gs before hval hW _ _
  obtain ⟨Φ, g, e1, e2, e3, e4, e5, e6, e7, e8, e9, e10⟩ := all48
  refine law_calls (P := Try.prog) (n := 8) rfl (fun ds hl => ?_) rfl Try.underlying4 Try.laidOut (by kernel_rfl) (by kernel_rfl) (con4 g e1 e5 e6 e7) hval hW fun xs hs => ?_
  · match ds, hl with
    | [d0], _ => rfl
  · obtain ⟨y, hy, hok⟩ := Reads.args (Reads.str (by kernel_rfl)) (Reads.nil) xs hs
    exact FT_true hy (rfl)
theorem roamingNew_holds : Rows.RoamingNewSaid :=
  OpenClaim.holds_of_wide 4 Try.f4 rfl rfl rfl rfl rfl rfl rfl ⟨rfl, rfl, rfl, rfl, rfl⟩ rfl rfl rfl rfl rfl (by kernel_rfl) Try.func4 (by kernel_rfl)
    (of_decide_eq_true (by kernel_rfl)) (by unfold Func.isWrapper; first | (rw [if_pos (by decide +kernel)]; kernel_rfl) | (rw [if_neg (by decide +kernel)]; exact ⟨rfl, rfl⟩))
    (fun os started H enc _ => roamingNew_lifted os started H enc)
end Go.Proofs.Ytikmficjcbkhcaa
