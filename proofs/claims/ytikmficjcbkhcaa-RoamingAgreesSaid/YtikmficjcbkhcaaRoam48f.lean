/- What a party has that another one has. -/
import Derived.Test.YtikmficjcbkhcaaRoam48e
namespace Go.Proofs.Ytikmficjcbkhcaa
set_option linter.all false
open Go.Idl
set_option maxHeartbeats 4000000
set_option maxRecDepth 100000
attribute [local go_sem] agPty agCdr eqDis agDir agObj eqItm Try.underlying3 Try.underlying5 Try.underlying9 Try.underlying4
def sameAt {α : Type} (eq : α → α → Bool) (x : α) : Option α → Bool
  | some o => eq x o
  | none => false
def okRec (p q : PartyD) (c : CdrD) : Bool := !pairB p.name q.name c || sameAt eqC c (getI CdrD.id q.cdrs c.id)
def okDis (p q : PartyD) (d : Disp) : Bool := match getI CdrD.id p.cdrs d.cdr with
  | none => true
  | some c => !pairB p.name q.name c || sameAt (fun x y => eqDs y x) d (getI Disp.cdr q.disputes d.cdr)
def hasS (p q : PartyD) : Bool := p.cdrs.all (okRec p q) && p.disputes.all (okDis p q)
abbrev SHas : List V → Option V := FT fun (t : PartyD × PartyD × Unit) => if okS t.1 = true ∧ okS t.2.1 = true then some (hasS t.1 t.2.1) else none
theorem con34 {Φ : Specs} (hg : Idl.Good Try.prog Φ) (h54 : Φ 54 = some SFnC) (h56 : Φ 56 = some SFnD) (h59 : Φ 59 = some SPair) (h30 : Φ 30 = some SEqC) : Contract Try.prog 34 SHas := by
  refine conT hg k34 ic34 (by decide) fun C t r h => ?_
  obtain ⟨p, q, u⟩ := t
  dsimp only at h
  split at h
  · rename_i hl
    obtain ⟨hlp, hlq⟩ := hl
    obtain ⟨hp, hpi⟩ := okS_iff.1 hlp
    obtain ⟨hq, hqi⟩ := okS_iff.1 hlq
    have p1 := hp.c
    have p2 := hp.d
    have q1 := hq.c
    have q2 := hq.d
    cases h
    simp +contextual only [go_sem, ↓reduceIte, Nat.reduceEqDiff, Nat.reduceAdd, Nat.reduceLeDiff, Nat.reduceLT, reduceCtorEq, c34, k34, List.length_map]
    refine TriI.loopL hg k34 p.cdrs (fun i (_ : Unit) => ⟨slotsL [(2, .ref 0 0 0), (3, .ref 1 0 0), (5, .sc (.int .i64 i))], objsL [.live 7 [Cod.enc p] true, .live 7 [Cod.enc q] true], 2⟩)
      (fun xs _ => (xs.all (okRec p q) && p.disputes.all (okDis p q)) = hasS p q) () (.back rfl ?_) rfl ?_ ?_
    · simp +contextual only [go_sem, ↓reduceIte, Nat.reduceEqDiff, Nat.reduceAdd, Nat.reduceLeDiff, Nat.reduceLT, reduceCtorEq, List.length_map]
      rfl
    · intro _ hinv
      rw [List.all_nil, Bool.true_and] at hinv
      simp +contextual only [go_sem, ↓reduceIte, Nat.reduceEqDiff, Nat.reduceAdd, Nat.reduceLeDiff, Nat.reduceLT, reduceCtorEq, k34, Int.lt_irrefl, decide_false, List.length_map]
      refine TriI.loopL hg k34 p.disputes (fun i (_ : Unit) => ⟨slotsL [(2, .ref 0 0 0), (3, .ref 1 0 0), (7, .sc (.int .i64 i))], objsL [.live 7 [Cod.enc p] true, .live 7 [Cod.enc q] true], 2⟩)
        (fun xs _ => xs.all (okDis p q) = hasS p q) () (.back rfl ?_) hinv ?_ ?_
      · simp +contextual only [go_sem, ↓reduceIte, Nat.reduceEqDiff, Nat.reduceAdd, Nat.reduceLeDiff, Nat.reduceLT, reduceCtorEq, List.length_map, low_cdrs, low_diss]
        rfl
      · intro _ hinv
        rw [List.all_nil] at hinv
        simp +contextual only [go_sem, ↓reduceIte, Nat.reduceEqDiff, Nat.reduceAdd, Nat.reduceLeDiff, Nat.reduceLT, reduceCtorEq, k34, Int.lt_irrefl, decide_false, List.length_map]
        exact hinv
      · intro i _ x xs hdr hlt hx hinv
        have hw := wrap_nat hlt (by omega)
        rw [List.all_cons] at hinv
        rcases idxI_get CdrD.id x.cdr p.cdrs 0 with ⟨r1, r2⟩ | ⟨j, c, _, r1, r2, r3⟩
        · have ho : okDis p q x = true := by rw [okDis, r2]
          rw [ho, Bool.true_and] at hinv
          have hneg : decide ((-1 : Int) < 0) = true := rfl
          simp +contextual only [go_sem, ↓reduceIte, Nat.reduceEqDiff, Nat.reduceAdd, Nat.reduceLeDiff, Nat.reduceLT, reduceCtorEq, k34, lt_dec hlt, hx, hw, p1, h54, r1, hneg, List.length_map, List.getElem?_map, Option.map_some, Int.natCast_nonneg, Int.toNat_natCast]
          repeat refine ⟨rfl, ?_⟩
          refine ⟨(), hinv, .back rfl ?_⟩
          simp +contextual only [go_sem, ↓reduceIte, Nat.reduceEqDiff, Nat.reduceAdd, Nat.reduceLeDiff, Nat.reduceLT, reduceCtorEq, low_cdrs, low_diss]
        · rw [Nat.sub_zero] at r2
          have hjl : j < p.cdrs.length := (List.getElem?_eq_some_iff.1 r2).1
          have hneg : decide ((j : Int) < 0) = false := by simp
          have hjI : (j : Int) < (p.cdrs.length : Int) := by omega
          cases hb : pairB p.name q.name c with
          | false =>
            have ho : okDis p q x = true := by rw [okDis, r3]; simp [hb]
            rw [ho, Bool.true_and] at hinv
            simp +contextual only [go_sem, ↓reduceIte, Nat.reduceEqDiff, Nat.reduceAdd, Nat.reduceLeDiff, Nat.reduceLT, reduceCtorEq, k34, lt_dec hlt, hx, hw, p1, h54, h59, hb, r1, r2, hjl, hjI, hneg, List.length_map, List.getElem?_map, Option.map_some, Int.natCast_nonneg, Int.toNat_natCast]
            repeat refine ⟨rfl, ?_⟩
            refine ⟨(), hinv, .back rfl ?_⟩
            simp +contextual only [go_sem, ↓reduceIte, Nat.reduceEqDiff, Nat.reduceAdd, Nat.reduceLeDiff, Nat.reduceLT, reduceCtorEq, low_cdrs, low_diss]
          | true =>
            have ho : okDis p q x = sameAt (fun x y => eqDs y x) x (getI Disp.cdr q.disputes x.cdr) := by rw [okDis, r3]; simp [hb]
            rw [ho] at hinv
            rcases idxI_get Disp.cdr x.cdr q.disputes 0 with ⟨s1, s2⟩ | ⟨k, d, _, s1, s2, s3⟩
            · have hneg2 : decide ((-1 : Int) < 0) = true := rfl
              rw [s2] at hinv
              simp +contextual only [go_sem, ↓reduceIte, Nat.reduceEqDiff, Nat.reduceAdd, Nat.reduceLeDiff, Nat.reduceLT, reduceCtorEq, k34, lt_dec hlt, hx, hw, p1, q2, h54, h56, h59, hb, r1, r2, hjl, hjI, hneg, s1, hneg2, List.length_map, List.getElem?_map, Option.map_some, Int.natCast_nonneg, Int.toNat_natCast]
              repeat refine ⟨rfl, ?_⟩
              exact hinv
            · rw [Nat.sub_zero] at s2
              have hkl : k < q.disputes.length := (List.getElem?_eq_some_iff.1 s2).1
              have hneg2 : decide ((k : Int) < 0) = false := by simp
              have hkI : (k : Int) < (q.disputes.length : Int) := by omega
              rw [s3] at hinv
              simp +contextual only [go_sem, ↓reduceIte, Nat.reduceEqDiff, Nat.reduceAdd, Nat.reduceLeDiff, Nat.reduceLT, reduceCtorEq, k34, lt_dec hlt, hx, hw, p1, q2, h54, h56, h59, hb, r1, r2, hjl, hjI, hneg, s1, s2, hkl, hkI, hneg2, List.length_map, List.getElem?_map, Option.map_some, Int.natCast_nonneg, Int.toNat_natCast]
              repeat refine ⟨rfl, ?_⟩
              refine ⟨fun h => ?_, fun h => ⟨(), ?_, .back rfl ?_⟩⟩
              · have h0 : (!eqDs d x) = true := h
                have h' : eqDs d x = false := by simpa using h0
                rw [← hinv, sameAt, h', Bool.false_and]
              · have h0 : (!eqDs d x) = false := h
                have h' : eqDs d x = true := by simpa using h0
                rw [sameAt, h', Bool.true_and] at hinv
                exact hinv
              · simp +contextual only [go_sem, ↓reduceIte, Nat.reduceEqDiff, Nat.reduceAdd, Nat.reduceLeDiff, Nat.reduceLT, reduceCtorEq, low_cdrs, low_diss]
    · intro i _ x xs hdr hlt hx hinv
      have hw := wrap_nat hlt (by omega)
      rw [List.all_cons] at hinv
      have l1 := okIt_mem hpi (List.mem_of_getElem? hx)
      cases hb : pairB p.name q.name x with
      | false =>
        have ho : okRec p q x = true := by simp [okRec, hb]
        rw [ho, Bool.true_and] at hinv
        simp +contextual only [go_sem, ↓reduceIte, Nat.reduceEqDiff, Nat.reduceAdd, Nat.reduceLeDiff, Nat.reduceLT, reduceCtorEq, k34, lt_dec hlt, hx, hw, q1, h54, h59, hb, List.length_map, List.getElem?_map, Option.map_some, Int.natCast_nonneg, Int.toNat_natCast]
        repeat refine ⟨rfl, ?_⟩
        refine ⟨(), hinv, .back rfl ?_⟩
        simp +contextual only [go_sem, ↓reduceIte, Nat.reduceEqDiff, Nat.reduceAdd, Nat.reduceLeDiff, Nat.reduceLT, reduceCtorEq, low_cdrs, low_diss]
      | true =>
        have ho : okRec p q x = sameAt eqC x (getI CdrD.id q.cdrs x.id) := by simp [okRec, hb]
        rw [ho] at hinv
        rcases idxI_get CdrD.id x.id q.cdrs 0 with ⟨r1, r2⟩ | ⟨j, c, _, r1, r2, r3⟩
        · have hneg : decide ((-1 : Int) < 0) = true := rfl
          rw [r2] at hinv
          simp +contextual only [go_sem, ↓reduceIte, Nat.reduceEqDiff, Nat.reduceAdd, Nat.reduceLeDiff, Nat.reduceLT, reduceCtorEq, k34, lt_dec hlt, hx, hw, q1, h54, h59, hb, r1, hneg, List.length_map, List.getElem?_map, Option.map_some, Int.natCast_nonneg, Int.toNat_natCast]
          repeat refine ⟨rfl, ?_⟩
          exact hinv
        · rw [Nat.sub_zero] at r2
          have l2 := okIt_mem hqi (List.mem_of_getElem? r2)
          have hjl : j < q.cdrs.length := (List.getElem?_eq_some_iff.1 r2).1
          have hneg : decide ((j : Int) < 0) = false := by simp
          have hjI : (j : Int) < (q.cdrs.length : Int) := by omega
          rw [r3] at hinv
          simp +contextual only [go_sem, ↓reduceIte, Nat.reduceEqDiff, Nat.reduceAdd, Nat.reduceLeDiff, Nat.reduceLT, reduceCtorEq, k34, lt_dec hlt, hx, hw, q1, l1, l2, and_self, h54, h30, h59, hb, r1, r2, hjl, hjI, hneg, List.length_map, List.getElem?_map, Option.map_some, Int.natCast_nonneg, Int.toNat_natCast]
          repeat refine ⟨rfl, ?_⟩
          refine ⟨fun h => ?_, fun h => ⟨(), ?_, .back rfl ?_⟩⟩
          · have h0 : (!eqC x c) = true := h
            have h' : eqC x c = false := by simpa using h0
            rw [← hinv, sameAt, h', Bool.false_and, Bool.false_and]
          · have h0 : (!eqC x c) = false := h
            have h' : eqC x c = true := by simpa using h0
            rw [sameAt, h', Bool.true_and] at hinv
            exact hinv
          · simp +contextual only [go_sem, ↓reduceIte, Nat.reduceEqDiff, Nat.reduceAdd, Nat.reduceLeDiff, Nat.reduceLT, reduceCtorEq, low_cdrs, low_diss]
  · cases h
abbrev SAgr : List V → Option V := FT fun (t : PartyD × PartyD × Unit) => if okS t.1 = true ∧ okS t.2.1 = true then some (hasS t.1 t.2.1 && hasS t.2.1 t.1) else none
theorem con14 {Φ : Specs} (hg : Idl.Good Try.prog Φ) (h34 : Φ 34 = some SHas) : Contract Try.prog 14 SAgr := by
  refine conT hg k14 ic14 (by decide) fun C t r h => ?_
  obtain ⟨p, q, u⟩ := t
  dsimp only at h
  split at h
  · rename_i hl
    obtain ⟨hlp, hlq⟩ := hl
    cases h
    simp +contextual only [go_sem, ↓reduceIte, Nat.reduceEqDiff, Nat.reduceAdd, Nat.reduceLeDiff, Nat.reduceLT, reduceCtorEq, c14, k14, h34, hlp, hlq, and_self]
  · cases h
end Go.Proofs.Ytikmficjcbkhcaa
