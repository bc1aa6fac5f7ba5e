/- Whether a list has an object. -/
import Derived.Test.YtaagkdmmdgajjaaDir45k
namespace Go.Proofs.Ytaagkdmmdgajjaa
set_option linter.all false
open Go.Idl
set_option maxHeartbeats 4000000
set_option maxRecDepth 100000
attribute [local go_sem] eqOK agObj agDir agOK agSh agMk Try.underlying3 Try.underlying5 Try.underlying9 Try.underlying4

def hasO (l : List ObjD) (o : ObjD) : Bool := l.any fun x => sameO x o
theorem hasO_iff {l : List ObjD} {o : ObjD} : hasO l o = true ↔ o ∈ l := by
  simp only [hasO, List.any_eq_true, sameO_iff]
  constructor
  · rintro ⟨x, hx, rfl⟩; exact hx
  · intro h; exact ⟨o, h, rfl⟩
abbrev SHas : List V → Option V := FT fun (t : List ObjD × ObjD × Unit) => if t.1.length ≤ 1000000 then some (hasO t.1 t.2.1) else none
theorem con23 {Φ : Specs} (hg : Idl.Good Try.prog Φ) (h18 : Φ 18 = some SSam) (h1 : Φ 43 = none) (h2 : Φ 53 = none) : Contract Try.prog 23 SHas := by
  refine conT hg k23 ic23 (by decide) fun C t r h => ?_
  obtain ⟨l, o, u⟩ := t
  dsimp only at h
  split at h
  · rename_i hl
    cases h
    simp +contextual only [go_sem, ↓reduceIte, Nat.reduceEqDiff, Nat.reduceAdd, Nat.reduceLeDiff, Nat.reduceLT, reduceCtorEq, c23, k23, h1]
    refine CallT.of_walk hg k43 ic43 (by simp) fun C1 hlow1 => ?_
    have hl1 : LowC C1 1 := hlow1 1 (by repeat (first | exact LowT.pnil | apply LowT.upd | apply LowT.prune | apply LowT.pcons | rfl)) (LowC.top _ _)
    simp +contextual only [go_sem, ↓reduceIte, Nat.reduceEqDiff, Nat.reduceAdd, Nat.reduceLeDiff, Nat.reduceLT, reduceCtorEq, c43, k43, h2]
    refine CallT.of_walk hg k53 ic53 (by simp) fun C2 hlow2 => ?_
    have hl2 : LowC C2 1 := hlow2 1 (by repeat (first | exact LowT.pnil | apply LowT.upd | apply LowT.prune | apply LowT.pcons | rfl)) hl1
    simp +contextual only [go_sem, ↓reduceIte, Nat.reduceEqDiff, Nat.reduceAdd, Nat.reduceLeDiff, Nat.reduceLT, reduceCtorEq, c53, k53, List.length_map]
    refine TriI.loopL hg k53 l (fun i (_ : Unit) => ⟨slotsL [(0, Cod.enc l), (1, .fn (.func 44) [] [.ref 0 0 0]), (7, .sc (.int .i64 l.length)), (8, .sc (.int .i64 i))], objsL [.live 6 [Cod.enc o] true], 1⟩) (fun xs _ => hasO xs o = hasO l o) () (.back rfl ?_) rfl ?_ ?_
    · simp +contextual only [go_sem, ↓reduceIte, Nat.reduceEqDiff, Nat.reduceAdd, Nat.reduceLeDiff, Nat.reduceLT, reduceCtorEq]
      trivial
    · intro _ hinv
      simp +contextual only [go_sem, ↓reduceIte, Nat.reduceEqDiff, Nat.reduceAdd, Nat.reduceLeDiff, Nat.reduceLT, reduceCtorEq, k53, Int.lt_irrefl, decide_false]
      trivial
    · intro i _ x xs hdr hlt hx hinv
      have hw := wrap_nat hlt (by omega)
      simp +contextual only [go_sem, ↓reduceIte, Nat.reduceEqDiff, Nat.reduceAdd, Nat.reduceLeDiff, Nat.reduceLT, reduceCtorEq, k53, lt_dec hlt, hx, hw, List.getElem?_map, Option.map_some, Int.natCast_nonneg, Int.toNat_natCast]
      refine CallT.of_walk hg k44 ic44 (by simp) fun C3 hlow3 => ?_
      simp +contextual only [go_sem, ↓reduceIte, Nat.reduceEqDiff, Nat.reduceAdd, Nat.reduceLeDiff, Nat.reduceLT, reduceCtorEq, c44, k44, h18]
      simp +contextual only [go_sem, ↓reduceIte, Nat.reduceEqDiff, Nat.reduceAdd, Nat.reduceLeDiff, Nat.reduceLT, reduceCtorEq, k53, hw]
      have hn : hasO (x :: xs) o = (sameO x o || hasO xs o) := rfl
      refine ⟨fun h => ?_, fun h => ⟨(), ?_, .back rfl ?_⟩⟩
      · rw [← hinv, hn, h, Bool.true_or]
        simp
      · dsimp only
        rw [← hinv, hn, h, Bool.false_or]
      · simp +contextual only [go_sem, ↓reduceIte, Nat.reduceEqDiff, Nat.reduceAdd, Nat.reduceLeDiff, Nat.reduceLT, reduceCtorEq]
  · cases h
end Go.Proofs.Ytaagkdmmdgajjaa
