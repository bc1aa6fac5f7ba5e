/- Records of all transactions: walks. -/
import Derived.Test.YtoccifhckpjfaaaRec37o
import Derived.Test.YtoccifhckpjfaaaMiss36
namespace Go.Proofs.Ytoccifhckpjfaaa
set_option linter.all false
open Go.Idl
set_option maxHeartbeats 16000000
set_option maxRecDepth 100000
attribute [local go_sem] agRec agEv37 eqRdg Try.underlying3 Try.underlying5 Try.underlying9 Try.underlying4 Try.underlying30 Try.underlying22 Try.underlying25
def eqRecB (a b : RecD) : Bool := sameRec a b && a.offline == b.offline
theorem eqRecB_iff {a b : RecD} : eqRecB a b = true ↔ a = b := by
  obtain ⟨a1, a2, a3, a4, a5, a6, a7, a8, a9, a10, a11⟩ := a
  obtain ⟨b1, b2, b3, b4, b5, b6, b7, b8, b9, b10, b11⟩ := b
  simp [eqRecB, sameRec, eqR_iff]
  constructor
  · rintro ⟨⟨⟨⟨⟨⟨⟨⟨⟨⟨h1, h2⟩, h3⟩, h4⟩, h5⟩, h6⟩, h7⟩, h8⟩, h9⟩, h10⟩, h11⟩
    exact ⟨h1, h2, h3, h4, h5, h6, h7, h8, h9, h11, h10⟩
  · rintro ⟨h1, h2, h3, h4, h5, h6, h7, h8, h9, h11, h10⟩
    exact ⟨⟨⟨⟨⟨⟨⟨⟨⟨⟨h1, h2⟩, h3⟩, h4⟩, h5⟩, h6⟩, h7⟩, h8⟩, h9⟩, h10⟩, h11⟩
abbrev SEqRec : List V → Option V := FT fun (t : RecD × RecD × Unit) => if t.1.rds.length ≤ 1000000 ∧ eqRecB t.1 t.2.1 = true then some true else none
theorem con32 {Φ : Specs} (hg : Idl.Good Try.prog Φ) : Contract Try.prog 32 SEqRec := by
  refine conT hg k32 ic32 (by decide) fun C t r h => ?_
  obtain ⟨a, b, u⟩ := t
  dsimp only at h
  split at h
  · rename_i hle
    obtain ⟨hl, he⟩ := hle
    cases h
    have hab := eqRecB_iff.1 he
    subst hab
    have q : ∀ z : Int, (z != z) = false := fun z => by simp
    have qb : ∀ z : Bool, (z != z) = false := fun z => by simp
    simp +contextual only [go_sem, ↓reduceIte, Nat.reduceEqDiff, Nat.reduceAdd, Nat.reduceLeDiff, Nat.reduceLT, reduceCtorEq, c32, k32, q, qb, decide_true, Bool.not_true, List.length_map]
    refine TriI.loopL hg k32 a.rds (fun i (_ : Unit) => ⟨slotsL [(2, .ref 0 0 0), (3, .ref 1 0 0), (4, .sc (.bool false)), (76, .sc (.int .i64 a.rds.length)), (77, .sc (.int .i64 i))], objsL [.live 11 [Cod.enc a] true, .live 11 [Cod.enc a] true], 2⟩)
      (fun _ _ => True) () (.back rfl ?_) trivial ?_ ?_
    · simp +contextual only [go_sem, ↓reduceIte, Nat.reduceEqDiff, Nat.reduceAdd, Nat.reduceLeDiff, Nat.reduceLT, reduceCtorEq]
      rfl
    · rintro _ _
      simp +contextual only [go_sem, ↓reduceIte, Nat.reduceEqDiff, Nat.reduceAdd, Nat.reduceLeDiff, Nat.reduceLT, reduceCtorEq, k32, Int.lt_irrefl, decide_false]
    · rintro i _ x xs hd hlt hx _
      have hw := wrap_nat hlt (by omega)
      simp +contextual only [go_sem, ↓reduceIte, Nat.reduceEqDiff, Nat.reduceAdd, Nat.reduceLeDiff, Nat.reduceLT, reduceCtorEq, k32, lt_dec hlt, hx, hw, q, beq_self_eq_true, Bool.and_self, Bool.not_true, List.length_map, List.getElem?_map, Option.map_some, Int.natCast_nonneg, Int.toNat_natCast]
      exact ⟨by rfl, (), trivial, .back rfl (by simp +contextual only [go_sem, ↓reduceIte, Nat.reduceEqDiff, Nat.reduceAdd, Nat.reduceLeDiff, Nat.reduceLT, reduceCtorEq])⟩
  · cases h
theorem con15 {Φ : Specs} (hg : Idl.Good Try.prog Φ) (h32 : Φ 32 = some SEqRec) : Contract Try.prog 15 SEqRec := by
  refine conT hg k15 ic15 (by decide) fun C t r h => ?_
  obtain ⟨a, b, u⟩ := t
  dsimp only at h
  split at h
  · rename_i hle
    obtain ⟨hl, he⟩ := hle
    cases h
    have hab := eqRecB_iff.1 he
    subst hab
    simp +contextual only [go_sem, ↓reduceIte, Nat.reduceEqDiff, Nat.reduceAdd, Nat.reduceLeDiff, Nat.reduceLT, reduceCtorEq, c15, k15, hl, he, h32, and_self, beq_self_eq_true]
  · cases h
end Go.Proofs.Ytoccifhckpjfaaa
