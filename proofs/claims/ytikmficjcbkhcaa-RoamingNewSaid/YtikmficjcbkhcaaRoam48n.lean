/- Small parties, and the example's records. -/
import Derived.Test.YtikmficjcbkhcaaRoam48k
namespace Go.Proofs.Ytikmficjcbkhcaa
set_option linter.all false
open Go.Idl
set_option maxHeartbeats 8000000
set_option maxRecDepth 100000
attribute [local go_sem] agPty agCdr eqDis agDir agObj eqItm Try.underlying3 Try.underlying5 Try.underlying9 Try.underlying4
def smallP (p : PartyD) : Bool := !(decide ((p.cdrs.length : Int) > 260) || decide ((p.disputes.length : Int) > 260) || decide ((p.dir.objects.length : Int) > 40) || decide ((p.dir.marks.length : Int) > 40)) && ((p.cdrs.all fun c => decide ((c.items.length : Int) ≤ 40)) && p.dir.objects.all fun o => decide ((o.data.length : Int) ≤ 500))
abbrev SSml : List V → Option V := FT fun (t : PartyD × Unit) => some (smallP t.1)
theorem con6 {Φ : Specs} (hg : Idl.Good Try.prog Φ) : Contract Try.prog 6 SSml := by
  refine conT hg k6 ic6 (by decide) fun C t r h => ?_
  obtain ⟨p, u⟩ := t
  cases h
  cases e1 : decide ((p.cdrs.length : Int) > 260) || decide ((p.disputes.length : Int) > 260) || decide ((p.dir.objects.length : Int) > 40) || decide ((p.dir.marks.length : Int) > 40) with
  | true =>
    simp +contextual only [go_sem, ↓reduceIte, Nat.reduceEqDiff, Nat.reduceAdd, Nat.reduceLeDiff, Nat.reduceLT, reduceCtorEq, c6, k6, e1, List.length_map]
    simp only [smallP, e1, Bool.not_true, Bool.false_and]
  | false =>
    have hl : p.cdrs.length ≤ 260 ∧ p.dir.objects.length ≤ 40 := by simp at e1; omega
    have hs : smallP p = ((p.cdrs.all fun c => decide ((c.items.length : Int) ≤ 40)) && p.dir.objects.all fun o => decide ((o.data.length : Int) ≤ 500)) := by simp only [smallP, e1, Bool.not_false, Bool.true_and]
    rw [hs]
    simp +contextual only [go_sem, ↓reduceIte, Nat.reduceEqDiff, Nat.reduceAdd, Nat.reduceLeDiff, Nat.reduceLT, reduceCtorEq, c6, k6, e1, List.length_map]
    refine TriI.loopL hg k6 p.cdrs (fun i (_ : Unit) => ⟨slotsL [(1, .ref 0 0 0), (31, .sc (.int .i64 p.cdrs.length)), (32, .sc (.int .i64 i))], objsL [.live 7 [Cod.enc p] true], 1⟩)
      (fun xs _ => ((xs.all fun c => decide ((c.items.length : Int) ≤ 40)) && p.dir.objects.all fun o => decide ((o.data.length : Int) ≤ 500)) = ((p.cdrs.all fun c => decide ((c.items.length : Int) ≤ 40)) && p.dir.objects.all fun o => decide ((o.data.length : Int) ≤ 500))) () (.back rfl ?_) rfl ?_ ?_
    · simp +contextual only [go_sem, ↓reduceIte, Nat.reduceEqDiff, Nat.reduceAdd, Nat.reduceLeDiff, Nat.reduceLT, reduceCtorEq, List.length_map]
      rfl
    · intro _ hinv
      rw [List.all_nil, Bool.true_and] at hinv
      rw [← hinv]
      simp +contextual only [go_sem, ↓reduceIte, Nat.reduceEqDiff, Nat.reduceAdd, Nat.reduceLeDiff, Nat.reduceLT, reduceCtorEq, k6, Int.lt_irrefl, decide_false, List.length_map]
      refine TriI.loopL hg k6 p.dir.objects (fun i (_ : Unit) => ⟨slotsL [(1, .ref 0 0 0), (47, .sc (.int .i64 p.dir.objects.length)), (48, .sc (.int .i64 i))], objsL [.live 7 [Cod.enc p] true], 1⟩)
        (fun xs _ => (xs.all fun o => decide ((o.data.length : Int) ≤ 500)) = (p.dir.objects.all fun o => decide ((o.data.length : Int) ≤ 500))) () (.back rfl ?_) rfl ?_ ?_
      · simp +contextual only [go_sem, ↓reduceIte, Nat.reduceEqDiff, Nat.reduceAdd, Nat.reduceLeDiff, Nat.reduceLT, reduceCtorEq, List.length_map, low_cdrs, low_diss]
        rfl
      · intro _ hinv
        simp +contextual only [go_sem, ↓reduceIte, Nat.reduceEqDiff, Nat.reduceAdd, Nat.reduceLeDiff, Nat.reduceLT, reduceCtorEq, k6, Int.lt_irrefl, decide_false, List.length_map]
        exact hinv
      · intro i _ x xs hdr hlt hx hinv
        have hw := wrap_nat hlt (by omega)
        have hltI : (i : Int) < (p.dir.objects.length : Int) := by omega
        rw [List.all_cons] at hinv
        simp +contextual only [go_sem, ↓reduceIte, Nat.reduceEqDiff, Nat.reduceAdd, Nat.reduceLeDiff, Nat.reduceLT, reduceCtorEq, k6, lt_dec hlt, hlt, hltI, hx, hw, List.length_map, List.getElem?_map, Option.map_some, Int.natCast_nonneg, Int.toNat_natCast]
        have hd : decide ((x.data.length : Int) > 500) = !decide ((x.data.length : Int) ≤ 500) := by rw [← decide_not]; simp only [Int.not_le, gt_iff_lt]
        rw [hd]
        refine ⟨fun h => ?_, fun h => ⟨(), ?_, .back rfl ?_⟩⟩
        · have h' : decide ((x.data.length : Int) ≤ 500) = false := by simpa using h
          rw [h', Bool.false_and] at hinv
          exact hinv
        · have h' : decide ((x.data.length : Int) ≤ 500) = true := by simpa using h
          rw [h', Bool.true_and] at hinv
          exact hinv
        · simp +contextual only [go_sem, ↓reduceIte, Nat.reduceEqDiff, Nat.reduceAdd, Nat.reduceLeDiff, Nat.reduceLT, reduceCtorEq, low_cdrs, low_diss]
    · intro i _ x xs hdr hlt hx hinv
      have hw := wrap_nat hlt (by omega)
      have hltI : (i : Int) < (p.cdrs.length : Int) := by omega
      rw [List.all_cons] at hinv
      simp +contextual only [go_sem, ↓reduceIte, Nat.reduceEqDiff, Nat.reduceAdd, Nat.reduceLeDiff, Nat.reduceLT, reduceCtorEq, k6, lt_dec hlt, hlt, hltI, hx, hw, List.length_map, List.getElem?_map, Option.map_some, Int.natCast_nonneg, Int.toNat_natCast]
      have hd : decide ((x.items.length : Int) > 40) = !decide ((x.items.length : Int) ≤ 40) := by rw [← decide_not]; simp only [Int.not_le, gt_iff_lt]
      rw [hd]
      refine ⟨fun h => ?_, fun h => ⟨(), ?_, .back rfl ?_⟩⟩
      · have h' : decide ((x.items.length : Int) ≤ 40) = false := by simpa using h
        rw [h', Bool.false_and, Bool.false_and] at hinv
        exact hinv
      · have h' : decide ((x.items.length : Int) ≤ 40) = true := by simpa using h
        rw [h', Bool.true_and] at hinv
        exact hinv
      · simp +contextual only [go_sem, ↓reduceIte, Nat.reduceEqDiff, Nat.reduceAdd, Nat.reduceLeDiff, Nat.reduceLT, reduceCtorEq, low_cdrs, low_diss]
def recS (id operator provider : ByteArray) : CdrD := ⟨id, operator, provider, ⟨#[83, 45, 49]⟩, 1, 0, 0, 0, ⟨#[84]⟩, ⟨#[69, 85, 82]⟩, [], 0, false, ⟨#[]⟩⟩
abbrev SRec : List V → Option V := FT fun (t : ByteArray × ByteArray × ByteArray × Unit) => some (recS t.1 t.2.1 t.2.2.1)
theorem con16 {Φ : Specs} (hg : Idl.Good Try.prog Φ) : Contract Try.prog 16 SRec := by
  refine conT hg k16 ic16 (by decide) fun C t r h => ?_
  obtain ⟨x, y, z, u⟩ := t
  cases h
  simp +contextual only [go_sem, ↓reduceIte, Nat.reduceEqDiff, Nat.reduceAdd, Nat.reduceLeDiff, Nat.reduceLT, reduceCtorEq, c16, k16, List.map_nil]
  rfl
end Go.Proofs.Ytikmficjcbkhcaa
