/- The laws of roaming, as contracts. -/
import Derived.Test.YtikmficjcbkhcaaGreatRoam48s
import Derived.Test.YtikmficjcbkhcaaGreatRoam48l
namespace Go.Proofs.YtikmficjcbkhcaaGreat
set_option linter.all false
open Go.Idl
set_option maxHeartbeats 8000000
set_option maxRecDepth 100000
attribute [local go_sem] agPty agCdr eqDis agDir agObj eqItm Tryz.underlying3 Tryz.underlying5 Tryz.underlying9 Tryz.underlying4
structure SmO (p : PartyD) : Prop where
  c : p.cdrs.length ≤ 260
  d : p.disputes.length ≤ 260
  o : p.dir.objects.length ≤ 40
  m : p.dir.marks.length ≤ 40
  cur : okCur p.cdrs = true
  it : okIt p.cdrs = true
  dat : okDat p.dir.objects = true
theorem small_ok {p : PartyD} (h : smallP p = true) (hc : okCur p.cdrs = true) : SmO p := by
  unfold smallP at h
  simp only [Bool.and_eq_true, Bool.not_eq_true', Bool.or_eq_false_iff, decide_eq_false_iff_not, List.all_eq_true, decide_eq_true_eq] at h
  obtain ⟨⟨⟨⟨a, b⟩, c⟩, d⟩, e, f⟩ := h
  refine ⟨by omega, by omega, by omega, by omega, hc, ?_, ?_⟩
  · rw [okIt, List.all_eq_true]
    intro x hx
    have := e x hx
    rw [decide_eq_true_eq]
    omega
  · rw [okDat, List.all_eq_true]
    intro x hx
    have := f x hx
    rw [decide_eq_true_eq]
    omega
theorem SmO.okp {p : PartyD} (h : SmO p) : okP p = true := okP_iff.2 ⟨by have := h.c; omega, by have := h.d; omega, by have := h.o; omega, by have := h.m; omega, h.cur⟩
theorem SmO.oks {p : PartyD} (h : SmO p) : okS p = true := okS_iff.2 ⟨okP_iff.1 h.okp, h.it⟩
theorem act_ok {p : PartyD} (h : SmO p) (id : ByteArray) (x y z : Int) : okS (actS p id x y z).1 = true := by
  have hp := h.oks
  unfold actS
  cases validP p == 0 with
  | false => exact hp
  | true =>
    rw [Bool.not_true, cond_false]
    cases getI Disp.cdr p.disputes id with
    | none => exact hp
    | some d =>
      dsimp only
      cases (stepS d p.name x y z).2 == 0 with
      | false => exact hp
      | true =>
        obtain ⟨⟨a1, a2, a3, a4, a5⟩, a6⟩ := okS_iff.1 hp
        exact okS_iff.2 ⟨⟨a1, by show (setI _ _ _).length ≤ _; rw [setI, List.length_set]; exact a2, a3, a4, a5⟩, a6⟩
theorem con3 {Φ : Specs} (hg : Idl.Good Tryz.prog Φ) (h6 : Φ 6 = some SEx) (h5 : Φ 5 = some SSml) (h7 : Φ 7 = some SAct) (h8 : Φ 8 = some SAct) (h9 : Φ 9 = some SSmP) :
    Contract Tryz.prog 3 (FT fun (t : PartyD × MoveD × Unit) => if okCur t.1.cdrs = true then some true else none) := by
  refine conT hg k3 ic3 (by decide) fun C t r h => ?_
  obtain ⟨p, ⟨id, x, y, z⟩, u⟩ := t
  dsimp only at h
  split at h
  · rename_i hl
    cases h
    cases h1 : smallP p with
    | false => simp +contextual only [go_sem, ↓reduceIte, Nat.reduceEqDiff, Nat.reduceAdd, Nat.reduceLeDiff, Nat.reduceLT, reduceCtorEq, c3, k3, h6, h5, h1]
    | true =>
      have hs := small_ok h1 hl
      have ho := hs.oks
      have hd := hs.dat
      have hq := act_ok hs id x y z
      cases hR : actS p id x y z with
      | mk q e =>
        rw [hR] at hq
        dsimp only at hq
        have hss : sameP q q = true := sameP_iff.2 rfl
        simp +contextual only [go_sem, ↓reduceIte, Nat.reduceEqDiff, Nat.reduceAdd, Nat.reduceLeDiff, Nat.reduceLT, reduceCtorEq, c3, k3, h6, h5, h7, h8, h9, h1, ho, hd, hR, hq, hss, and_self, beq_self_eq_true]
        all_goals rfl
  · cases h
theorem claim_ok {p : PartyD} (h : SmO p) (id : ByteArray) (x y : Int) : okS (claimS p id x y).1 = true := by
  have hp := h.oks
  unfold claimS
  cases validP p == 0 with
  | false => exact hp
  | true =>
    rw [Bool.not_true, cond_false]
    cases getI CdrD.id p.cdrs id with
    | none => exact hp
    | some c =>
      dsimp only
      cases decide (c.provider = p.name) with
      | false => exact hp
      | true =>
        cases (openS c p.name x y).2 == 0 with
        | false => exact hp
        | true =>
          cases hasI Disp.cdr p.disputes id with
          | true => exact hp
          | false =>
            cases decide ((p.disputes.length : Int) ≥ 256) with
            | true => exact hp
            | false =>
              obtain ⟨⟨a1, a2, a3, a4, a5⟩, a6⟩ := okS_iff.1 hp
              have := h.d
              exact okS_iff.2 ⟨⟨a1, by show (_ ++ [_]).length ≤ _; rw [List.length_append]; simp; omega, a3, a4, a5⟩, a6⟩
theorem con4 {Φ : Specs} (hg : Idl.Good Tryz.prog Φ) (h6 : Φ 6 = some SEx) (h5 : Φ 5 = some SSml) (h10 : Φ 10 = some SClm) (h11 : Φ 11 = some SClm) (h9 : Φ 9 = some SSmP) :
    Contract Tryz.prog 4 (FT fun (t : PartyD × MoveD × Unit) => if okCur t.1.cdrs = true then some true else none) := by
  refine conT hg k4 ic4 (by decide) fun C t r h => ?_
  obtain ⟨p, ⟨id, a, x, y⟩, u⟩ := t
  dsimp only at h
  split at h
  · rename_i hl
    cases h
    cases h1 : smallP p with
    | false => simp +contextual only [go_sem, ↓reduceIte, Nat.reduceEqDiff, Nat.reduceAdd, Nat.reduceLeDiff, Nat.reduceLT, reduceCtorEq, c4, k4, h6, h5, h1]
    | true =>
      have hs := small_ok h1 hl
      have ho := hs.oks
      have hd := hs.dat
      have hq := claim_ok hs id x y
      cases hR : claimS p id x y with
      | mk q e =>
        rw [hR] at hq
        dsimp only at hq
        have hss : sameP q q = true := sameP_iff.2 rfl
        simp +contextual only [go_sem, ↓reduceIte, Nat.reduceEqDiff, Nat.reduceAdd, Nat.reduceLeDiff, Nat.reduceLT, reduceCtorEq, c4, k4, h6, h5, h10, h11, h9, h1, ho, hd, hR, hq, hss, and_self, beq_self_eq_true]
        all_goals rfl
  · cases h
end Go.Proofs.YtikmficjcbkhcaaGreat
