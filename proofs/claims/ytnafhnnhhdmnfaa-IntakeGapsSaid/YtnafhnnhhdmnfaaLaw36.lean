/- The laws of collections. -/
import Derived.Test.YtnafhnnhhdmnfaaAwake36
namespace Go.Proofs.Ytnafhnnhhdmnfaa
set_option linter.all false
open Go.Idl
set_option maxHeartbeats 4000000
set_option maxRecDepth 100000
attribute [local go_sem] Try.underlying3 Try.underlying5 Try.underlying9 Try.underlying4 agKey
abbrev Aw : List V → Option V := FT fun (_ : Unit) => some true
def shortE (e : EvD) : Bool := !(decide ((e.station.size : Int) > 50) || decide ((e.txn.size : Int) > 50) || decide ((e.token.size : Int) > 50) || decide ((e.rds.length : Int) > 18))
def shortL (l : List EvD) : Bool := decide (l.length ≤ 30) && l.all shortE
abbrev SShort : List V → Option V := FT fun (t : List EvD × Unit) => some (shortL t.1)
theorem con9 {Φ : Specs} (hg : Idl.Good Try.prog Φ) : Contract Try.prog 9 SShort := by
  refine conT hg k9 ic9 (by decide) fun C t r h => ?_
  obtain ⟨l, u⟩ := t
  cases h
  simp +contextual only [go_sem, ↓reduceIte, Nat.reduceEqDiff, Nat.reduceAdd, Nat.reduceLeDiff, Nat.reduceLT, reduceCtorEq, c9, k9, List.length_map]
  refine ⟨fun h => ?_, fun h => ?_⟩
  · have : decide (l.length ≤ 30) = false := by simp at h ⊢; omega
    simp only [shortL, this, Bool.false_and]
  · have h1 : decide (l.length ≤ 30) = true := by simp at h ⊢; omega
    have h2 : l.length ≤ 30 := by simpa using h1
    refine TriI.loopL hg k9 l (fun i (_ : Unit) => ⟨slotsL [(0, Cod.enc l), (3, .sc (.int .i64 i))], objsL [], 0⟩)
      (fun xs _ => xs.all shortE = l.all shortE) () (.back rfl ?_) rfl ?_ ?_
    · simp +contextual only [go_sem, ↓reduceIte, Nat.reduceEqDiff, Nat.reduceAdd, Nat.reduceLeDiff, Nat.reduceLT, reduceCtorEq, List.length_map]
      rfl
    · intro a hinv
      simp +contextual only [go_sem, ↓reduceIte, Nat.reduceEqDiff, Nat.reduceAdd, Nat.reduceLeDiff, Nat.reduceLT, reduceCtorEq, k9, Int.lt_irrefl, decide_false, List.length_map]
      simp only [shortL, h1, ← hinv, List.all_nil, Bool.and_true]
    · intro i a x xs hd hlt hx hinv
      have hw := wrap_nat hlt (by omega)
      simp +contextual only [go_sem, ↓reduceIte, Nat.reduceEqDiff, Nat.reduceAdd, Nat.reduceLeDiff, Nat.reduceLT, reduceCtorEq, k9, lt_dec hlt, hx, List.length_map, List.getElem?_map, Option.map_some, Int.natCast_nonneg, Int.toNat_natCast]
      refine ⟨fun hb => ?_, fun hb => ⟨(), ?_, .back rfl ?_⟩⟩
      · have : shortE x = false := by unfold shortE; rw [hb]; rfl
        simp only [shortL, ← hinv, List.all_cons, this, Bool.false_and, Bool.and_false]
      · have : shortE x = true := by unfold shortE; rw [hb]; rfl
        rw [← hinv, List.all_cons, this, Bool.true_and]
      · simp +contextual only [go_sem, ↓reduceIte, Nat.reduceEqDiff, Nat.reduceAdd, Nat.reduceLeDiff, Nat.reduceLT, reduceCtorEq, hw]
theorem con3 {Φ : Specs} (hg : Idl.Good Try.prog Φ) (h9 : Φ 9 = some SShort) (h10 : Φ 10 = some Aw) (h11 : Φ 11 = some SCol)
    (h12 : Φ 12 = some SCol) : Contract Try.prog 3 (FT fun (_ : List EvD × Unit) => some true) := by
  refine conT hg k3 ic3 (by decide) fun C t r h => ?_
  obtain ⟨l, u⟩ := t
  cases h
  simp +contextual only [go_sem, ↓reduceIte, Nat.reduceEqDiff, Nat.reduceAdd, Nat.reduceLeDiff, Nat.reduceLT, reduceCtorEq, c3, k3, h9, h10, h11, h12]
theorem all36 : ∃ Φ : Specs, Idl.Good Try.prog Φ ∧ Φ 9 = some SShort ∧ Φ 10 = some Aw ∧ Φ 11 = some SCol ∧ Φ 12 = some SCol ∧ Φ 13 = some SPut ∧ Φ 18 = some SOf := by
  have g := good0
  have g := g.add (facts_enters ic9) (con9 g)
  have g := g.add (facts_enters ic10) conAw
  have g := g.add (facts_enters ic11) C11
  have g := g.add (facts_enters ic12) C12
  have g := g.add (facts_enters ic13) C13
  have g := g.add (facts_enters ic18) C18
  exact ⟨_, g, rfl, rfl, rfl, rfl, rfl, rfl⟩
theorem Try.own : ownKnob Try.prog.godebug = none := by kernel_rfl
theorem Try.laidOut : laidOutB Try.prog = true := by kernel_rfl
theorem rdRdg {n : Nat} : Reads Try.prog (n + 2) 63 Rdg Rdg.ok := by
  intro cs hs
  rw [shape_struct Try.underlying63] at hs
  obtain ⟨p0, q0, rfl, h0, hs⟩ := shapeFs_cons hs
  obtain ⟨p1, q1, rfl, h1, hs⟩ := shapeFs_cons hs
  cases shapeFs_nil hs
  obtain ⟨a0, _, rfl, k0⟩ := (Reads.int (by kernel_rfl)) _ h0
  obtain ⟨a1, _, rfl, k1⟩ := (Reads.int (by kernel_rfl)) _ h1
  exact ⟨⟨a0, a1⟩, by rw [aggT_struct Try.underlying63]; rfl, rfl, k0, k1⟩
theorem rdEvD {n : Nat} : Reads Try.prog (n + 4) 29 EvD EvD.ok := by
  intro cs hs
  rw [shape_struct Try.underlying29] at hs
  obtain ⟨p0, q0, rfl, h0, hs⟩ := shapeFs_cons hs
  obtain ⟨p1, q1, rfl, h1, hs⟩ := shapeFs_cons hs
  obtain ⟨p2, q2, rfl, h2, hs⟩ := shapeFs_cons hs
  obtain ⟨p3, q3, rfl, h3, hs⟩ := shapeFs_cons hs
  obtain ⟨p4, q4, rfl, h4, hs⟩ := shapeFs_cons hs
  obtain ⟨p5, q5, rfl, h5, hs⟩ := shapeFs_cons hs
  obtain ⟨p6, q6, rfl, h6, hs⟩ := shapeFs_cons hs
  obtain ⟨p7, q7, rfl, h7, hs⟩ := shapeFs_cons hs
  obtain ⟨p8, q8, rfl, h8, hs⟩ := shapeFs_cons hs
  obtain ⟨p9, q9, rfl, h9, hs⟩ := shapeFs_cons hs
  cases shapeFs_nil hs
  obtain ⟨a0, _, rfl, k0⟩ := (Reads.str (by kernel_rfl)) _ h0
  obtain ⟨a1, _, rfl, k1⟩ := (Reads.str (by kernel_rfl)) _ h1
  obtain ⟨a2, _, rfl, k2⟩ := (Reads.int (by kernel_rfl)) _ h2
  obtain ⟨a3, _, rfl, k3⟩ := (Reads.int (by kernel_rfl)) _ h3
  obtain ⟨a4, _, rfl, k4⟩ := (Reads.int (by kernel_rfl)) _ h4
  obtain ⟨a5, _, rfl, k5⟩ := (Reads.int (by kernel_rfl)) _ h5
  obtain ⟨a6, _, rfl, k6⟩ := (Reads.str (by kernel_rfl)) _ h6
  obtain ⟨a7, _, rfl, k7⟩ := (Reads.bool (by kernel_rfl)) _ h7
  obtain ⟨a8, _, rfl, k8⟩ := (Reads.int (by kernel_rfl)) _ h8
  obtain ⟨a9, _, rfl, k9⟩ := (Reads.list (by kernel_rfl) (by kernel_rfl) (rdRdg)) _ h9
  exact ⟨⟨a0, a1, a2, a3, a4, a5, a6, a7, a8, a9⟩, by rw [aggT_struct Try.underlying29]; rfl, rfl, k0, k1, k2, k3, k4, k5, k6, k7, k8, k9⟩
end Go.Proofs.Ytnafhnnhhdmnfaa
