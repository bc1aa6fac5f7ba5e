/- For all parties and steps the law RoamingClaims returns true, and its arguments read as before. No conditions. -/
import Derived.Test.YtikmficjcbkhcaaGreatJoin48
namespace Go.Proofs.YtikmficjcbkhcaaGreat
set_option linter.all false
open Go.Idl Go.RowKit
set_option maxRecDepth 100000 in
theorem roamingClaims_lifted (os : Os) (started : os.Started) (H : Type) (enc : TypeId × Value → H) :
    ReturnsInHanded {} Tryz.checked os 4 .any (Rows.roamingClaimsSpec.pre6 enc Tryz.prog Tryz.f4 Rows.roamingClaimsRow.domain false) (Rows.roamingClaimsSpec.post enc Tryz.prog Tryz.f4 false true false false) := by
  refine returnsInHanded_of_change (C := Tryz.checked) Tryz.own started (by kernel_rfl) Tryz.func4
    (ChangeSpec.witness6 (enc := enc) (C := Tryz.checked) false ⟨#[], #[.agg #[.string ⟨#[]⟩, .string ⟨#[]⟩, .slice none 0 0, .slice none 0 0, .int .i64 0, .slice none 0 0, .slice none 0 0], .agg #[.string ⟨#[]⟩, .int .i64 0, .int .i64 0, .int .i64 0]], []⟩ 8 (by kernel_rfl) (by kernel_rfl) (by kernel_rfl) (by kernel_rfl)) ?_
  intro W base args ds gs before hval hW _ _
  obtain ⟨Φ, g, e1, e2, e3, e4, e5, e6, e7, e8, e9, e10, e11⟩ := all48
  refine law_calls (P := Tryz.prog) (n := 8) rfl (fun ds hl => ?_) rfl Tryz.underlying4 Tryz.laidOut (by kernel_rfl) (by kernel_rfl) (con4 g e1 e2 e10 e11 e6) hval hW fun xs hs => ?_
  · match ds, hl with
    | [d0, d1], _ => rfl
  · obtain ⟨y, hy, hok⟩ := Reads.args (rdPartyD) (Reads.args (rdMoveD) (Reads.nil)) xs hs
    exact FT_true hy (if_pos (cur_ok hok.1.2.2.1.2))
theorem roamingClaims_holds : Rows.RoamingClaimsSaid :=
  OpenClaim.holds_of_wide 4 Tryz.f4 rfl rfl rfl rfl rfl rfl rfl ⟨rfl, rfl, rfl, rfl, rfl⟩ rfl rfl rfl rfl rfl (by kernel_rfl) Tryz.func4 (by kernel_rfl)
    (of_decide_eq_true (by kernel_rfl)) (by unfold Func.isWrapper; first | (rw [if_pos (by decide +kernel)]; kernel_rfl) | (rw [if_neg (by decide +kernel)]; exact ⟨rfl, rfl⟩))
    (fun os started H enc _ => roamingClaims_lifted os started H enc)
end Go.Proofs.YtikmficjcbkhcaaGreat
