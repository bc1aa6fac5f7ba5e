/- For all gaps, every reason, online or offline, and every order the law RecordsMeet returns true, and the lists read as before, where the listed tables of the library start as the program lays them; the card ties them. No other conditions. -/
import Derived.Test.YteocedfakgdckaaDoorJoin19
import Derived.Test.YteocedfakgdckaaDoorCards
import Derived.Test.YteocedfakgdckaaDoorTie
import Derived.SevenTiedAt
namespace Go.Proofs.YteocedfakgdckaaDoor
set_option linter.all false
open Go.Idl Go.RowKit
set_option maxRecDepth 100000 in
theorem recordsMeet_lifted (os : Os) (started : os.Started) (H : Type) (enc : TypeId × Value → H) :
    ReturnsInHanded {} Tryd.checked os 3 .any (fun w args => (Rows.recordsMeetSpec.pre enc Tryd.prog Tryd.f3 [] false w args ∧ laidMetH Tryd.prog laid3 w) ∧ sizedMet enc Tryd.prog Tryd.f3 (OpenSpec.ofChange Rows.recordsMeetSpec) false w args)
      (Rows.recordsMeetSpec.post enc Tryd.prog Tryd.f3 false true false false) := by
  refine returnsInHanded_of_change_and (C := Tryd.checked) (X := fun w _ => laidMetH Tryd.prog laid3 w) (fun _ _ _ hh h => h.of_heap hh) Tryd.own started (by kernel_rfl) Tryd.func3
    (ChangeSpec.witness_shaped (enc := enc) (C := Tryd.checked) (os := os) (X := fun w _ => laidMetH Tryd.prog laid3 w) false (World.doorLaid Tryd.prog 400 os) #[.slice none 0 0, .int .u8 0, .bool false, .slice none 0 0] 8 rfl (World.shaped_of_RefB (by kernel_rfl) (by kernel_rfl)) (by kernel_rfl) (by kernel_rfl) (by kernel_rfl) (door_met os _)) ?_
  intro W base args ds gs before hval hW _ _ hL _
  refine law_calls (P := Tryd.prog) (n := 8) rfl (fun ds hl => ?_) rfl Tryd.underlying4 Tryd.laidOut (by kernel_rfl) (by kernel_rfl) C3 hval hW (fun xs hs => ?_) (laid_of hL)
  · match ds, hl with
    | [d0, d1, d2, d3], _ => rfl
  · obtain ⟨y, hy, hok⟩ := (Reads.args (Reads.list (e := 5) (by kernel_rfl) (by kernel_rfl) (Reads.kint (k := .u8) (by kernel_rfl))) (Reads.args (Reads.kint (k := .u8) (by kernel_rfl)) (Reads.args (Reads.bool (by kernel_rfl)) (Reads.args (Reads.list (e := 5) (by kernel_rfl) (by kernel_rfl) (Reads.kint (k := .u8) (by kernel_rfl))) Reads.nil)))) xs hs
    exact FT_true hy rfl
theorem recordsMeet_holds : Rows.RecordsMeetSaid :=
  OpenClaim.holds_of_wide 3 Tryd.f3 rfl rfl rfl rfl rfl rfl rfl ⟨rfl, rfl, rfl, rfl, rfl⟩ rfl rfl rfl rfl rfl (by kernel_rfl) Tryd.func3 (by kernel_rfl)
    (of_decide_eq_true (by kernel_rfl)) (by unfold Func.isWrapper; first | (rw [if_pos (by decide +kernel)]; kernel_rfl) | (rw [if_neg (by decide +kernel)]; exact ⟨rfl, rfl⟩))
    (fun os started H enc _ => recordsMeet_lifted os started H enc)
theorem recordsMeet_card_holds : Rows.RecordsMeetCardSaid :=
  Claim7.holds_tied_plain_at .later [] [.data, .data, .data] true (true, "d10225f5410656124b15a1f4348807144385b3af3fbd7f4e99526ab0b0886fd7") true
    recordsMeet_holds (fun _ h => by cases h) (by kernel_rfl) (fun _ h => by cases h) recordsMeet_row_tie rfl ⟨rfl, rfl⟩ (by kernel_rfl) rfl
    (fun f fn hf hfn => by
      obtain rfl : f = 3 := Option.some.inj ((show Tryd.prog.funcNamed "chargenet/chargenettop.RecordsMeet" = some 3 by kernel_rfl).symm.trans hf) |>.symm
      obtain rfl : fn = Tryd.f3 := (Option.some.inj (Tryd.func3.symm.trans hfn)).symm
      exact ⟨by kernel_rfl, fun j t ht => by
        rw [Tryd.params3] at ht
        have hm : t ∈ [22, 5, 4, 22] := by simpa using Array.mem_of_getElem? ht
        have hall : ([22, 5, 4, 22].all fun u => !Tryd.prog.wantsStandIn u) = true := by kernel_rfl
        exact (show Tryd.prog.wantsStandIn t = false by simpa using List.all_eq_true.1 hall t hm)⟩)
    (by kernel_rfl)
end Go.Proofs.YteocedfakgdckaaDoor
