/- Act. -/
import Derived.Test.YtalhbhbkdfmhgaaRoam48j
namespace Go.Proofs.Ytalhbhbkdfmhgaa
set_option linter.all false
open Go.Idl
set_option maxHeartbeats 8000000
set_option maxRecDepth 100000
attribute [local go_sem] agPty agCdr agDis eqDis agDir agObj eqItm Try.underlying3 Try.underlying5 Try.underlying9 Try.underlying4
def setI (l : List Disp) (id : ByteArray) (d : Disp) : List Disp := l.set (idxI Disp.cdr l id 0).toNat d
def actS (p : PartyD) (id : ByteArray) (x y z : Int) : PartyD × Int := bif !(validP p == 0) then (p, validP p) else match getI Disp.cdr p.disputes id with
  | none => (p, 8)
  | some d => bif !((stepS d p.name x y z).2 == 0) then (p, (stepS d p.name x y z).2) else (⟨p.name, p.dir, p.cdrs, setI p.disputes id (stepS d p.name x y z).1⟩, 0)
abbrev SAct : List V → Option V := FT fun (t : PartyD × ByteArray × Int × Int × Int × Unit) => if okS t.1 = true ∧ okDat t.1.dir.objects = true then some (actS t.1 t.2.1 t.2.2.1 t.2.2.2.1 t.2.2.2.2.1) else none
theorem con26 {Φ : Specs} (hg : Idl.Good Try.prog Φ) (h14 : Φ 14 = some SVlP) (h46 : Φ 46 = some SAbt) (h47 : Φ 47 = some S47) (hfr : Φ 18 = none) (h19 : Φ 19 = some SFrR) : Contract Try.prog 26 SAct := by
  refine conT hg k26 ic26 (by decide) fun C t r h => ?_
  obtain ⟨p, id, x, y, z, u⟩ := t
  dsimp only at h
  split at h
  · rename_i hl
    obtain ⟨hl, hdat⟩ := hl
    obtain ⟨hp, hpi⟩ := okS_iff.1 hl
    have hpo := okP_iff.2 hp
    have p1 := hp.c
    have p2 := hp.d
    have p3 := hp.o
    have p4 := hp.m
    cases h
    unfold actS
    cases e1 : validP p == 0 with
    | false =>
      have e1' : (validP p != 0) = true := by simpa using e1
      simp +contextual only [go_sem, ↓reduceIte, Nat.reduceEqDiff, Nat.reduceAdd, Nat.reduceLeDiff, Nat.reduceLT, reduceCtorEq, c26, k26, h14, hpo, e1', Bool.not_false, cond_true, List.length_map]
    | true =>
      have e1' : (validP p != 0) = false := by simpa using e1
      rcases idxI_get Disp.cdr id p.disputes 0 with ⟨r1, r2⟩ | ⟨j, d, _, r1, r2, r3⟩
      · have hneg : decide ((-1 : Int) < 0) = true := rfl
        rw [r2]
        simp +contextual only [go_sem, ↓reduceIte, Nat.reduceEqDiff, Nat.reduceAdd, Nat.reduceLeDiff, Nat.reduceLT, reduceCtorEq, c26, k26, h14, h46, hpo, p2, e1', r1, hneg, Bool.not_true, cond_false, List.length_map]
      · rw [Nat.sub_zero] at r2
        have hjl : j < p.disputes.length := (List.getElem?_eq_some_iff.1 r2).1
        have hneg : decide ((j : Int) < 0) = false := by simp
        have hjI : (j : Int) < (p.disputes.length : Int) := by omega
        rw [r3]
        dsimp only
        generalize hr : stepS d p.name x y z = R
        cases e2 : R.2 == 0 with
        | false =>
          have e2' : (R.2 != 0) = true := by simpa using e2
          simp +contextual only [go_sem, ↓reduceIte, Nat.reduceEqDiff, Nat.reduceAdd, Nat.reduceLeDiff, Nat.reduceLT, reduceCtorEq, c26, k26, h14, h46, h47, S47, hr, hpo, p2, e1', e2', r1, r2, hjl, hjI, hneg, Bool.not_true, Bool.not_false, cond_true, cond_false, List.length_map, List.getElem?_map, Option.map_some, Int.natCast_nonneg, Int.toNat_natCast]
          rfl
        | true =>
          have e2' : (R.2 != 0) = false := by simpa using e2
          simp +contextual only [go_sem, ↓reduceIte, Nat.reduceEqDiff, Nat.reduceAdd, Nat.reduceLeDiff, Nat.reduceLT, reduceCtorEq, c26, k26, h14, h46, h47, S47, hfr, hr, hpo, p2, e1', e2', r1, r2, hjl, hjI, hneg, Bool.not_true, cond_true, cond_false, List.length_map, List.getElem?_map, Option.map_some, Int.natCast_nonneg, Int.toNat_natCast]
          refine ⟨rfl, ct18 hg h19 (fun id hid => by (repeat (refine (updH_ne (by omega)).trans ?_)); rfl) hp hpi hdat fun τ' H' n' mid oid cid did hF => ?_⟩
          obtain ⟨f1, f2, f3, f4, f5, f6, f7, f8, f9, f10, f11⟩ := hF
          have q1 : H' 1 = .live 7 [zeroPy] true := (f11 1 (by omega)).trans (by (repeat (first | exact updH_at | refine (updH_ne (by omega)).trans ?_)))
          have q16 : H' 16 = .live 6 [Cod.enc R.1] true := (f11 16 (by omega)).trans (by (repeat (first | exact updH_at | refine (updH_ne (by omega)).trans ?_)))
          have u0 : H' n' = .unborn := f5 _ (Nat.le_refl _)
          have z1 : ∀ k, (n' + k = did) = False := fun k => by simp; omega
          have z2 : (n' = did) = False := by simp; omega
          have z3 : (did = n') = False := by simp; omega
          have z4 : (1 = did) = False := by simp; omega
          have z5 : (1 = n') = False := by simp; omega
          have z6 : (16 = n') = False := by simp; omega
          have y1 : (mid = n') = False := by simp; omega
          have y2 : (oid = n') = False := by simp; omega
          have y3 : (cid = n') = False := by simp; omega
          have y4 : (mid = did) = False := by simp; omega
          have y5 : (oid = did) = False := by simp; omega
          have y6 : (cid = did) = False := by simp; omega
          have y7 : (mid = 1) = False := by simp; omega
          have y8 : (oid = 1) = False := by simp; omega
          have y9 : (cid = 1) = False := by simp; omega
          have y10 : (did = 1) = False := by simp; omega
          have y11 : (n' = 1) = False := by simp; omega
          have hset : setI p.disputes id R.1 = p.disputes.set j R.1 := by rw [setI, r1]; rfl
          have hms : (p.disputes.map Cod.enc : List V).set j (.agg [.sc (.string R.1.cdr), .sc (.string R.1.who), .sc (.int .i64 R.1.state), .sc (.int .i64 R.1.opened), .sc (.int .i64 R.1.claim), .sc (.int .i64 R.1.granted)]) = (p.disputes.set j R.1).map Cod.enc := by rw [List.map_set]; rfl
          have hsl : (p.disputes.set j R.1).length = p.disputes.length := List.length_set
          have t1 : (p.dir.marks.map Cod.enc : List V).take p.dir.marks.length = p.dir.marks.map Cod.enc := List.take_of_length_le (by simp)
          have t2 : (p.dir.objects.map Cod.enc : List V).take p.dir.objects.length = p.dir.objects.map Cod.enc := List.take_of_length_le (by simp)
          have t3 : (p.cdrs.map Cod.enc : List V).take p.cdrs.length = p.cdrs.map Cod.enc := List.take_of_length_le (by simp)
          have t4 : ((p.disputes.set j R.1).map Cod.enc : List V).take p.disputes.length = (p.disputes.set j R.1).map Cod.enc := List.take_of_length_le (by simp)
          simp +contextual only [go_sem, ↓reduceIte, Nat.reduceEqDiff, Nat.reduceAdd, Nat.reduceLeDiff, Nat.reduceLT, reduceCtorEq, k26, outP, zeroPy, q1, q16, f1, f2, f3, f4, u0, z1, z2, z3, z4, z5, z6, y1, y2, y3, y4, y5, y6, y7, y8, y9, y10, y11, hjI, hjl, r2, hms, hsl, hset, t1, t2, t3, t4, isF_obs, isF_ints, isF_cdrs, isF_diss, List.getElem?_map, Option.map_some, List.length_map, Nat.zero_add, Nat.le_refl, Int.natCast_nonneg, Int.toNat_natCast, decL_enc Cod.dec_enc, true_and, and_true]
  · cases h
end Go.Proofs.Ytalhbhbkdfmhgaa
