/- For every list of sessions the law PartnersAgree returns true, and its argument reads as before. No conditions. -/
import Derived.Test.YtalhbhbkdfmhgaaJoin25
namespace Go.Proofs.Ytalhbhbkdfmhgaa
set_option linter.all false
open Go.Idl Go.RowKit
set_option maxRecDepth 100000 in
theorem partnersAgree_lifted (os : Os) (started : os.Started) (H : Type) (enc : TypeId × Value → H) :
    ReturnsInHanded {} Try.checked os 3 .any (Rows.partnersAgreeSpec.pre6 enc Try.prog Try.f3 Rows.partnersAgreeRow.domain false) (Rows.partnersAgreeSpec.post enc Try.prog Try.f3 false true false false) := by
  refine returnsInHanded_of_change (C := Try.checked) Try.own started (by kernel_rfl) Try.func3
    (ChangeSpec.witness6 (enc := enc) (C := Try.checked) false ⟨#[], #[.slice none 0 0], []⟩ 8 (by kernel_rfl) (by kernel_rfl) (by kernel_rfl) (by kernel_rfl)) ?_
  intro W base args ds gs before hval hW _ _
  obtain ⟨Φ, g, e1, e2, e3, e4, e5, e6, e7, e8⟩ := all25
  refine law_calls (P := Try.prog) (n := 8) rfl (fun ds hl => ?_) rfl Try.underlying4 Try.laidOut (by kernel_rfl) (by kernel_rfl) (con3 g e1 e2 e3 e4 e5 e6 e7 e8) hval hW fun xs hs => ?_
  · match ds, hl with
    | [d0], _ => rfl
  · obtain ⟨y, hy, hok⟩ := (Reads.args (Reads.list (e := 36) (by kernel_rfl) (by kernel_rfl) rdDealD) Reads.nil) xs hs
    exact FT_true hy (if_pos hok.1.1)
theorem partnersAgree_holds : Rows.PartnersAgreeSaid :=
  OpenClaim.holds_of_wide 3 Try.f3 rfl rfl rfl rfl rfl rfl rfl ⟨rfl, rfl, rfl, rfl, rfl⟩ rfl rfl rfl rfl rfl (by kernel_rfl) Try.func3 (by kernel_rfl)
    (of_decide_eq_true (by kernel_rfl)) (by unfold Func.isWrapper; first | (rw [if_pos (by decide +kernel)]; kernel_rfl) | (rw [if_neg (by decide +kernel)]; exact ⟨rfl, rfl⟩))
    (fun os started H enc _ => partnersAgree_lifted os started H enc)
end Go.Proofs.Ytalhbhbkdfmhgaa
