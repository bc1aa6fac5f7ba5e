/- The laws of roaming, as contracts. -/
import Derived.Test.YtikmficjcbkhcaaRoam48s
import Derived.Test.YtikmficjcbkhcaaRoam48l
namespace Go.Proofs.Ytikmficjcbkhcaa
set_option linter.all false
open Go.Idl
set_option maxHeartbeats 8000000
set_option maxRecDepth 100000
attribute [local go_sem] agPty agCdr eqDis agDir agObj eqItm Try.underlying3 Try.underlying5 Try.underlying9 Try.underlying4
structure SmO (p : PartyD) : Prop where
  c : p.cdrs.length ≤ 260
  d : p.disputes.length ≤ 260
  o : p.dir.objects.length ≤ 40
  m : p.dir.marks.length ≤ 40
  cur : okCur p.cdrs = true
  it : okIt p.cdrs = true
  dat : okDat p.dir.objects = true
theorem small_ok {p : PartyD} (h : smallP p = true) (hc : okCur p.cdrs = true) : SmO p := by
  unfold smallP at h
  simp only [Bool.and_eq_true, Bool.not_eq_true', Bool.or_eq_false_iff, decide_eq_false_iff_not, List.all_eq_true, decide_eq_true_eq] at h
  obtain ⟨⟨⟨⟨a, b⟩, c⟩, d⟩, e, f⟩ := h
  refine ⟨by omega, by omega, by omega, by omega, hc, ?_, ?_⟩
  · rw [okIt, List.all_eq_true]
    intro x hx
    have := e x hx
    rw [decide_eq_true_eq]
    omega
  · rw [okDat, List.all_eq_true]
    intro x hx
    have := f x hx
    rw [decide_eq_true_eq]
    omega
theorem SmO.okp {p : PartyD} (h : SmO p) : okP p = true := okP_iff.2 ⟨by have := h.c; omega, by have := h.d; omega, by have := h.o; omega, by have := h.m; omega, h.cur⟩
theorem SmO.oks {p : PartyD} (h : SmO p) : okS p = true := okS_iff.2 ⟨okP_iff.1 h.okp, h.it⟩
theorem con3 {Φ : Specs} (hg : Idl.Good Try.prog Φ) (h7 : Φ 7 = some SEx) (h6 : Φ 6 = some SSml) (h8 : Φ 8 = some SVlP) (h9 : Φ 9 = some SVlP) :
    Contract Try.prog 3 (FT fun (t : PartyD × Unit) => if okCur t.1.cdrs = true then some true else none) := by
  refine conT hg k3 ic3 (by decide) fun C t r h => ?_
  obtain ⟨p, u⟩ := t
  dsimp only at h
  split at h
  · rename_i hl
    cases h
    cases h1 : smallP p with
    | false => simp +contextual only [go_sem, ↓reduceIte, Nat.reduceEqDiff, Nat.reduceAdd, Nat.reduceLeDiff, Nat.reduceLT, reduceCtorEq, c3, k3, h7, h6, h1]
    | true =>
      have ho := (small_ok h1 hl).okp
      simp +contextual only [go_sem, ↓reduceIte, Nat.reduceEqDiff, Nat.reduceAdd, Nat.reduceLeDiff, Nat.reduceLT, reduceCtorEq, c3, k3, h7, h6, h8, h9, h1, ho, beq_self_eq_true]
      all_goals rfl
  · cases h
theorem con4 {Φ : Specs} (hg : Idl.Good Try.prog Φ) (h7 : Φ 7 = some SEx) (h10 : Φ 10 = some SNewP) (h11 : Φ 11 = some SNewP) (h12 : Φ 12 = some SSmP) :
    Contract Try.prog 4 (FT fun (t : ByteArray × Unit) => some true) := by
  refine conT hg k4 ic4 (by decide) fun C t r h => ?_
  obtain ⟨s, u⟩ := t
  cases h
  obtain ⟨q, e, hq, hok⟩ : ∃ q e, newP s = (q, e) ∧ okS q = true := by
    unfold newP
    cases okName s with
    | true => exact ⟨_, _, rfl, rfl⟩
    | false => exact ⟨_, _, rfl, rfl⟩
  have hs : sameP q q = true := sameP_iff.2 rfl
  cases h1 : decide ((s.size : Int) > 200) with
  | true => simp +contextual only [go_sem, ↓reduceIte, Nat.reduceEqDiff, Nat.reduceAdd, Nat.reduceLeDiff, Nat.reduceLT, reduceCtorEq, c4, k4, h7, h1]
  | false => simp +contextual only [go_sem, ↓reduceIte, Nat.reduceEqDiff, Nat.reduceAdd, Nat.reduceLeDiff, Nat.reduceLT, reduceCtorEq, c4, k4, h7, h10, h11, h12, h1, hq, hok, hs, and_self, beq_self_eq_true]
theorem con5 {Φ : Specs} (hg : Idl.Good Try.prog Φ) (h7 : Φ 7 = some SEx) (h6 : Φ 6 = some SSml) (h9 : Φ 9 = some SVlP) (h13 : Φ 13 = some SAgA) (h14 : Φ 14 = some SAgr) :
    Contract Try.prog 5 (FT fun (t : PartyD × PartyD × Unit) => if okCur t.1.cdrs = true ∧ okCur t.2.1.cdrs = true then some true else none) := by
  refine conT hg k5 ic5 (by decide) fun C t r h => ?_
  obtain ⟨p, q, u⟩ := t
  dsimp only at h
  split at h
  · rename_i hl
    obtain ⟨hlp, hlq⟩ := hl
    cases h
    cases h1 : smallP p with
    | false => simp +contextual only [go_sem, ↓reduceIte, Nat.reduceEqDiff, Nat.reduceAdd, Nat.reduceLeDiff, Nat.reduceLT, reduceCtorEq, c5, k5, h7, h6, h1]
    | true =>
      cases h2 : smallP q with
      | false => simp +contextual only [go_sem, ↓reduceIte, Nat.reduceEqDiff, Nat.reduceAdd, Nat.reduceLeDiff, Nat.reduceLT, reduceCtorEq, c5, k5, h7, h6, h1, h2]
      | true =>
        have op := (small_ok h1 hlp).okp
        have oq := (small_ok h2 hlq).okp
        have sp := (small_ok h1 hlp).oks
        have sq := (small_ok h2 hlq).oks
        cases h3 : validP p == 0 with
        | false =>
          have h3' : (validP p != 0) = true := by simpa using h3
          simp +contextual only [go_sem, ↓reduceIte, Nat.reduceEqDiff, Nat.reduceAdd, Nat.reduceLeDiff, Nat.reduceLT, reduceCtorEq, c5, k5, h7, h6, h9, h1, h2, op, oq, h3']
        | true =>
          have h3' : (validP p != 0) = false := by simpa using h3
          have v3 : validP p = 0 := by simpa using h3
          cases h4 : validP q == 0 with
          | false =>
            have h4' : (validP q != 0) = true := by simpa using h4
            simp +contextual only [go_sem, ↓reduceIte, Nat.reduceEqDiff, Nat.reduceAdd, Nat.reduceLeDiff, Nat.reduceLT, reduceCtorEq, c5, k5, h7, h6, h9, h1, h2, op, oq, h3', h4']
          | true =>
            have h4' : (validP q != 0) = false := by simpa using h4
            have v4 : validP q = 0 := by simpa using h4
            have g1 := agr_law (wp v3) (wp v4)
            have g2 := agr_comm (wp v3) (wp v4)
            simp +contextual only [go_sem, ↓reduceIte, Nat.reduceEqDiff, Nat.reduceAdd, Nat.reduceLeDiff, Nat.reduceLT, reduceCtorEq, c5, k5, h7, h6, h9, h13, h14, h1, h2, op, oq, sp, sq, v3, v4, h3', h4', g2, ← g1, and_self, beq_self_eq_true, bne_self_eq_false]
            all_goals rfl
  · cases h
end Go.Proofs.Ytikmficjcbkhcaa
