/- Comparing numbers and strings; the first of some that is not zero (for seats without strings.Compare). -/
import Derived.Test.YtalhbhbkdfmhgaaCodes
namespace Go.Proofs.Ytalhbhbkdfmhgaa
set_option linter.all false
open Go.Idl
set_option maxHeartbeats 4000000
set_option maxRecDepth 100000
attribute [local go_sem] Try.underlying3 Try.underlying5 Try.underlying9
def cmpI (a b : Int) : Int := if a < b then -1 else if b < a then 1 else 0
theorem con78 {Φ : Specs} (hg : Idl.Good Try.prog Φ) : Contract Try.prog 78 (FT fun (t : Int × Unit) => some false) := by
  refine conT hg k78 ic78 (by decide) fun C t r h => ?_
  obtain ⟨a, u⟩ := t
  cases h
  simp +contextual only [go_sem, ↓reduceIte, Nat.reduceEqDiff, Nat.reduceAdd, Nat.reduceLeDiff, Nat.reduceLT, reduceCtorEq, c78, k78]
theorem con70 {Φ : Specs} (hg : Idl.Good Try.prog Φ) (h55 : Φ 78 = some (FT fun (t : Int × Unit) => some false)) : Contract Try.prog 70 (FT fun (t : Int × Int × Unit) => some (cmpI t.1 t.2.1)) := by
  refine conT hg k70 ic70 (by decide) fun C t r h => ?_
  obtain ⟨a, b, u⟩ := t
  cases h
  simp +contextual only [go_sem, ↓reduceIte, Nat.reduceEqDiff, Nat.reduceAdd, Nat.reduceLeDiff, Nat.reduceLT, reduceCtorEq, c70, k70, h55]
  (repeat' (first | apply And.intro | intro _)) <;> (try simp_all [cmpI]) <;> (try omega)
def firstNZ : List Int → Int
  | [] => 0
  | a :: l => if a ≠ 0 then a else firstNZ l
theorem con69 {Φ : Specs} (hg : Idl.Good Try.prog Φ) : Contract Try.prog 69 (FT fun (t : List Int × Unit) => if t.1.length ≤ 1000000 then some (firstNZ t.1) else none) := by
  refine conT hg k69 ic69 (by decide) fun C t r h => ?_
  obtain ⟨l, u⟩ := t
  dsimp only at h
  split at h
  · rename_i hl
    cases h
    simp +contextual only [go_sem, ↓reduceIte, Nat.reduceEqDiff, Nat.reduceAdd, Nat.reduceLeDiff, Nat.reduceLT, reduceCtorEq, c69, k69]
    refine TriI.loopL hg k69 l (fun i (_ : Unit) => ⟨slotsL [(3, .sc (.int .i64 0)), (6, Cod.enc l), (7, .sc (.int .i64 l.length)), (8, .sc (.int .i64 i))], objsL [], 0⟩) (fun xs _ => firstNZ xs = firstNZ l) () (.back rfl ?_) rfl ?_ ?_
    · simp +contextual only [go_sem, ↓reduceIte, Nat.reduceEqDiff, Nat.reduceAdd, Nat.reduceLeDiff, Nat.reduceLT, reduceCtorEq, List.length_map]
      rfl
    · intro _ hinv
      simp +contextual only [go_sem, ↓reduceIte, Nat.reduceEqDiff, Nat.reduceAdd, Nat.reduceLeDiff, Nat.reduceLT, reduceCtorEq, k69, Int.lt_irrefl, decide_false]
      rw [← hinv]; rfl
    · intro i _ x xs hd hlt hx hinv
      have hw := wrap_nat hlt (by omega)
      simp +contextual only [go_sem, ↓reduceIte, Nat.reduceEqDiff, Nat.reduceAdd, Nat.reduceLeDiff, Nat.reduceLT, reduceCtorEq, k69, lt_dec hlt, hx, List.getElem?_map, Option.map_some, Int.natCast_nonneg, Int.toNat_natCast]
      refine ⟨fun h => by rw [← hinv]; simp_all [firstNZ], fun h => ⟨(), ?_, .back rfl ?_⟩⟩
      · dsimp only; rw [← hinv]; simp_all [firstNZ]
      · simp +contextual only [go_sem, ↓reduceIte, Nat.reduceEqDiff, Nat.reduceAdd, Nat.reduceLeDiff, Nat.reduceLT, reduceCtorEq, hw]
  · cases h
def cmpT (a b : ByteArray) : Int := bif ltS a b then -1 else bif !(ltS a b || decide (a = b)) then 1 else 0
theorem con79 {Φ : Specs} (hg : Idl.Good Try.prog Φ) : Contract Try.prog 79 (FT fun (t : ByteArray × Unit) => some false) := by
  refine conT hg k79 ic79 (by decide) fun C t r h => ?_
  obtain ⟨a, u⟩ := t
  cases h
  simp +contextual only [go_sem, ↓reduceIte, Nat.reduceEqDiff, Nat.reduceAdd, Nat.reduceLeDiff, Nat.reduceLT, reduceCtorEq, c79, k79]
theorem con71 {Φ : Specs} (hg : Idl.Good Try.prog Φ) (h58 : Φ 79 = some (FT fun (t : ByteArray × Unit) => some false)) : Contract Try.prog 71 (FT fun (t : ByteArray × ByteArray × Unit) => some (cmpT t.1 t.2.1)) := by
  refine conT hg k71 ic71 (by decide) fun C t r h => ?_
  obtain ⟨a, b, u⟩ := t
  cases h
  simp +contextual only [go_sem, ↓reduceIte, Nat.reduceEqDiff, Nat.reduceAdd, Nat.reduceLeDiff, Nat.reduceLT, reduceCtorEq, c71, k71, h58]
  (repeat' (first | apply And.intro | intro _)) <;> simp only [cmpT, *, cond_true, cond_false]
end Go.Proofs.Ytalhbhbkdfmhgaa
