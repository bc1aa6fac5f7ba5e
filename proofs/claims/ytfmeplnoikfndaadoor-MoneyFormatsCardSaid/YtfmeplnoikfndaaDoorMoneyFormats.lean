/- For every amount and every string the law MoneyFormats returns true, where the listed variables of the library start as the program lays them; the card ties them. No other conditions. -/
import Derived.Test.YtfmeplnoikfndaaDoorJoin03
import Derived.Test.YtfmeplnoikfndaaDoorCards
import Derived.Test.YtfmeplnoikfndaaDoorTie
import Derived.SevenTiedAt
namespace Go.Proofs.YtfmeplnoikfndaaDoor
set_option linter.all false
open Go.Idl Go.RowKit
set_option maxRecDepth 100000 in
theorem moneyFormats_lifted (os : Os) (started : os.Started) (H : Type) (enc : TypeId × Value → H) :
    ReturnsInHanded {} Tryd.checked os 9 .any (fun w args => (Rows.moneyFormatsSpec.pre enc Tryd.prog Tryd.f9 [] false w args ∧ laidMetH Tryd.prog laid5 w) ∧ sizedMet enc Tryd.prog Tryd.f9 (OpenSpec.ofChange Rows.moneyFormatsSpec) false w args)
      (Rows.moneyFormatsSpec.post enc Tryd.prog Tryd.f9 false true false false) := by
  refine returnsInHanded_of_change_and (C := Tryd.checked) (X := fun w _ => laidMetH Tryd.prog laid5 w) (fun _ _ _ hh h => h.of_heap hh) Tryd.own started (by kernel_rfl) Tryd.func9
    (ChangeSpec.witness_shaped (enc := enc) (C := Tryd.checked) (os := os) (X := fun w _ => laidMetH Tryd.prog laid5 w) false (World.doorLaid Tryd.prog 400 os) #[.int .i64 0, .string ⟨#[]⟩] 8 rfl (World.shaped_of_RefB (by kernel_rfl) (by kernel_rfl)) (by kernel_rfl) (by kernel_rfl) (by kernel_rfl) (door_met os _)) ?_
  intro W base args ds gs before hval hW _ _ hL _
  refine law_calls (P := Tryd.prog) (n := 8) rfl (fun ds hl => ?_) rfl Tryd.underlying4 Tryd.laidOut (by kernel_rfl) (by kernel_rfl) C9 hval hW (fun xs hs => ?_) (laid_of hL)
  · match ds, hl with
    | [d0, d1], _ => rfl
  · obtain ⟨y, hy, hok⟩ := (Reads.args (Reads.int (by kernel_rfl)) (Reads.args (Reads.str (by kernel_rfl)) Reads.nil)) xs hs
    exact FT_true hy (if_pos ⟨hok.1, hok.2.1⟩)
theorem moneyFormats_holds : Rows.MoneyFormatsSaid :=
  OpenClaim.holds_of_wide 9 Tryd.f9 rfl rfl rfl rfl rfl rfl rfl ⟨rfl, rfl, rfl, rfl, rfl⟩ rfl rfl rfl rfl rfl (by kernel_rfl) Tryd.func9 (by kernel_rfl)
    (of_decide_eq_true (by kernel_rfl)) (by unfold Func.isWrapper; first | (rw [if_pos (by decide +kernel)]; kernel_rfl) | (rw [if_neg (by decide +kernel)]; exact ⟨rfl, rfl⟩))
    (fun os started H enc _ => moneyFormats_lifted os started H enc)
theorem moneyFormats_card_holds : Rows.MoneyFormatsCardSaid :=
  Claim7.holds_tied_plain_at .later [] [.data, .data, .data, .sentinel, .sentinel] true (true, "c6f7fc210c372da78cb2f8168ac62e339624a7d4bcb80f748678c1b9a056c054") true
    moneyFormats_holds (fun _ h => by cases h) (by kernel_rfl) (fun _ h => by cases h) moneyFormats_row_tie rfl ⟨rfl, rfl⟩ (by kernel_rfl) rfl
    (fun f fn hf hfn => by
      obtain rfl : f = 9 := Option.some.inj ((show Tryd.prog.funcNamed "chargenet/chargenetlaw03.MoneyFormats" = some 9 by kernel_rfl).symm.trans hf) |>.symm
      obtain rfl : fn = Tryd.f9 := (Option.some.inj (Tryd.func9.symm.trans hfn)).symm
      exact ⟨by kernel_rfl, fun j t ht => by
        rw [Tryd.params9] at ht
        have hm : t ∈ [3, 9] := by simpa using Array.mem_of_getElem? ht
        have hall : ([3, 9].all fun u => !Tryd.prog.wantsStandIn u) = true := by kernel_rfl
        exact (show Tryd.prog.wantsStandIn t = false by simpa using List.all_eq_true.1 hall t hm)⟩)
    (by kernel_rfl)
end Go.Proofs.YtfmeplnoikfndaaDoor
