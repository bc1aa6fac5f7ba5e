/- Claim, and both by the reference. -/
import Derived.Test.YtalhbhbkdfmhgaaRoam48k
namespace Go.Proofs.Ytalhbhbkdfmhgaa
set_option linter.all false
open Go.Idl
set_option maxHeartbeats 8000000
set_option maxRecDepth 100000
attribute [local go_sem] agPty agCdr agDis eqDis agDir agObj eqItm Try.underlying3 Try.underlying5 Try.underlying9 Try.underlying4
def claimS (p : PartyD) (id : ByteArray) (cl now : Int) : PartyD × Int := bif !(validP p == 0) then (p, validP p) else match getI CdrD.id p.cdrs id with
  | none => (p, 8)
  | some c => bif !decide (c.provider = p.name) then (p, 15) else bif !((openS c p.name cl now).2 == 0) then (p, (openS c p.name cl now).2) else bif hasI Disp.cdr p.disputes id then (p, 9) else
    bif decide ((p.disputes.length : Int) ≥ 256) then (p, 3) else (⟨p.name, p.dir, p.cdrs, p.disputes ++ [(openS c p.name cl now).1]⟩, 0)
abbrev SClm : List V → Option V := FT fun (t : PartyD × ByteArray × Int × Int × Unit) => if okS t.1 = true ∧ okDat t.1.dir.objects = true then some (claimS t.1 t.2.1 t.2.2.1 t.2.2.2.1) else none
theorem con25 {Φ : Specs} (hg : Idl.Good Try.prog Φ) (h14 : Φ 14 = some SVlP) (h16 : Φ 16 = some SRcd) (h46 : Φ 46 = some SAbt) (h45 : Φ 45 = some SOpen) (hfr : Φ 18 = none) (h19 : Φ 19 = some SFrR) : Contract Try.prog 25 SClm := by
  refine conT hg k25 ic25 (by decide) fun C t r h => ?_
  obtain ⟨p, id, x, y, u⟩ := t
  dsimp only at h
  split at h
  · rename_i hl
    obtain ⟨hl, hdat⟩ := hl
    obtain ⟨hp, hpi⟩ := okS_iff.1 hl
    have hpo := okP_iff.2 hp
    have p1 := hp.c
    have p2 := hp.d
    have p3 := hp.o
    have p4 := hp.m
    cases h
    unfold claimS
    have hge := idxI_ge Disp.cdr p.disputes id
    cases e1 : validP p == 0 with
    | false =>
      have e1' : (validP p != 0) = true := by simpa using e1
      simp +contextual only [go_sem, ↓reduceIte, Nat.reduceEqDiff, Nat.reduceAdd, Nat.reduceLeDiff, Nat.reduceLT, reduceCtorEq, c25, k25, h14, hpo, e1', Bool.not_false, cond_true, List.length_map]
    | true =>
      have e1' : (validP p != 0) = false := by simpa using e1
      rcases idxI_get CdrD.id id p.cdrs 0 with ⟨r1, r2⟩ | ⟨j, c, _, r1, r2, r3⟩
      · have hneg : decide ((-1 : Int) < 0) = true := rfl
        rw [r2]
        simp +contextual only [go_sem, ↓reduceIte, Nat.reduceEqDiff, Nat.reduceAdd, Nat.reduceLeDiff, Nat.reduceLT, reduceCtorEq, c25, k25, h14, h16, hpo, p1, e1', r1, hneg, Bool.not_true, cond_false, List.length_map]
      · rw [Nat.sub_zero] at r2
        have hjl : j < p.cdrs.length := (List.getElem?_eq_some_iff.1 r2).1
        have hneg : decide ((j : Int) < 0) = false := by simp
        have hjI : (j : Int) < (p.cdrs.length : Int) := by omega
        rw [r3]
        dsimp only
        generalize hr : openS c p.name x y = R
        cases e2 : decide (c.provider = p.name) with
        | false =>
          simp +contextual only [go_sem, ↓reduceIte, Nat.reduceEqDiff, Nat.reduceAdd, Nat.reduceLeDiff, Nat.reduceLT, reduceCtorEq, c25, k25, h14, h16, hpo, p1, e1', e2, r1, r2, hjl, hjI, hneg, Bool.not_true, Bool.not_false, cond_true, cond_false, List.length_map, List.getElem?_map, Option.map_some, Int.natCast_nonneg, Int.toNat_natCast]
          rfl
        | true =>
          cases e3 : R.2 == 0 with
          | false =>
            have e3' : (R.2 != 0) = true := by simpa using e3
            simp +contextual only [go_sem, ↓reduceIte, Nat.reduceEqDiff, Nat.reduceAdd, Nat.reduceLeDiff, Nat.reduceLT, reduceCtorEq, c25, k25, h14, h16, h45, hr, hpo, p1, e1', e2, e3', r1, r2, hjl, hjI, hneg, Bool.not_true, Bool.not_false, cond_true, cond_false, List.length_map, List.getElem?_map, Option.map_some, Int.natCast_nonneg, Int.toNat_natCast]
            exact ⟨rfl, rfl⟩
          | true =>
            have e3' : (R.2 != 0) = false := by simpa using e3
            cases e4 : hasI Disp.cdr p.disputes id with
            | true =>
              rw [e4] at hge
              simp +contextual only [go_sem, ↓reduceIte, Nat.reduceEqDiff, Nat.reduceAdd, Nat.reduceLeDiff, Nat.reduceLT, reduceCtorEq, c25, k25, h14, h16, h46, h45, hr, hge, hpo, p1, p2, e1', e2, e3', r1, r2, hjl, hjI, hneg, Bool.not_true, Bool.not_false, cond_true, cond_false, List.length_map, List.getElem?_map, Option.map_some, Int.natCast_nonneg, Int.toNat_natCast]
              exact ⟨rfl, rfl⟩
            | false =>
              rw [e4] at hge
              cases e5 : decide ((p.disputes.length : Int) ≥ 256) with
              | true =>
                simp +contextual only [go_sem, ↓reduceIte, Nat.reduceEqDiff, Nat.reduceAdd, Nat.reduceLeDiff, Nat.reduceLT, reduceCtorEq, c25, k25, h14, h16, h46, h45, hr, hge, hpo, p1, p2, e1', e2, e3', e5, r1, r2, hjl, hjI, hneg, Bool.not_true, Bool.not_false, cond_true, cond_false, List.length_map, List.getElem?_map, Option.map_some, Int.natCast_nonneg, Int.toNat_natCast]
                exact ⟨rfl, rfl⟩
              | false =>
                simp +contextual only [go_sem, ↓reduceIte, Nat.reduceEqDiff, Nat.reduceAdd, Nat.reduceLeDiff, Nat.reduceLT, reduceCtorEq, c25, k25, h14, h16, h46, h45, hfr, hr, hge, hpo, p1, p2, e1', e2, e3', e5, r1, r2, hjl, hjI, hneg, Bool.not_true, Bool.not_false, cond_true, cond_false, List.length_map, List.getElem?_map, Option.map_some, Int.natCast_nonneg, Int.toNat_natCast]
                refine ⟨rfl, rfl, ct18 hg h19 (fun id hid => by (repeat (refine (updH_ne (by omega)).trans ?_)); rfl) hp hpi hdat fun τ' H' n' mid oid cid did hF => ?_⟩
                obtain ⟨f1, f2, f3, f4, f5, f6, f7, f8, f9, f10, f11⟩ := hF
                have q1 : H' 1 = .live 7 [zeroPy] true := (f11 1 (by omega)).trans (by (repeat (first | exact updH_at | refine (updH_ne (by omega)).trans ?_)))
                have q24 : H' 24 = .live 6 [Cod.enc R.1] true := (f11 24 (by omega)).trans (by (repeat (first | exact updH_at | refine (updH_ne (by omega)).trans ?_)))
                have u0 : H' n' = .unborn := f5 _ (Nat.le_refl _)
                have uk : ∀ k, H' (n' + k) = .unborn := fun k => f5 _ (by omega)
                have z1 : ∀ k, (n' + k = did) = False := fun k => by simp; omega
                have z2 : (n' = did) = False := by simp; omega
                have z3 : (did = n') = False := by simp; omega
                have z4 : (1 = did) = False := by simp; omega
                have z5 : (1 = n') = False := by simp; omega
                have z6 : (24 = n') = False := by simp; omega
                have z7 : ∀ k, (did = n' + k) = False := fun k => by simp; omega
                have z8 : ∀ k, (24 = n' + k) = False := fun k => by simp; omega
                have z9 : ∀ k, (1 = n' + k) = False := fun k => by simp; omega
                have z10 : ∀ k, (n' + k = 1) = False := fun k => by simp; omega
                have y1 : (mid = n') = False := by simp; omega
                have y2 : (oid = n') = False := by simp; omega
                have y3 : (cid = n') = False := by simp; omega
                have y4 : (mid = did) = False := by simp; omega
                have y5 : (oid = did) = False := by simp; omega
                have y6 : (cid = did) = False := by simp; omega
                have y7 : (mid = 1) = False := by simp; omega
                have y8 : (oid = 1) = False := by simp; omega
                have y9 : (cid = 1) = False := by simp; omega
                have y10 : (did = 1) = False := by simp; omega
                have y11 : (n' = 1) = False := by simp; omega
                have y12 : ∀ k, (mid = n' + k) = False := fun k => by simp; omega
                have y13 : ∀ k, (oid = n' + k) = False := fun k => by simp; omega
                have y14 : ∀ k, (cid = n' + k) = False := fun k => by simp; omega
                have b1 : (p.disputes.length + 1) * 64 ≤ 68719476736 := by omega
                have b2 : p.disputes.length + 1 ≤ 4294967296 := by omega
                have hms : (p.disputes.map Cod.enc ++ [.agg [.sc (.string R.1.cdr), .sc (.string R.1.who), .sc (.int .i64 R.1.state), .sc (.int .i64 R.1.opened), .sc (.int .i64 R.1.claim), .sc (.int .i64 R.1.granted)]] : List V) = (p.disputes ++ [R.1]).map Cod.enc := by rw [List.map_append]; rfl
                have t1 : (p.dir.marks.map Cod.enc : List V).take p.dir.marks.length = p.dir.marks.map Cod.enc := List.take_of_length_le (by simp)
                have t2 : (p.dir.objects.map Cod.enc : List V).take p.dir.objects.length = p.dir.objects.map Cod.enc := List.take_of_length_le (by simp)
                have t3 : (p.cdrs.map Cod.enc : List V).take p.cdrs.length = p.cdrs.map Cod.enc := List.take_of_length_le (by simp)
                have t4 : ((p.disputes ++ [R.1]).map Cod.enc : List V).take (p.disputes.length + 1) = (p.disputes ++ [R.1]).map Cod.enc := List.take_of_length_le (by simp)
                have hsl : (p.disputes ++ [R.1]).length = p.disputes.length + 1 := by simp
                simp +contextual only [go_sem, ↓reduceIte, Nat.reduceEqDiff, Nat.reduceAdd, Nat.reduceLeDiff, Nat.reduceLT, reduceCtorEq, k25, outP, zeroPy, q1, q24, f1, f2, f3, f4, u0, uk, z1, z2, z3, z4, z5, z6, z7, z8, z9, z10, y1, y2, y3, y4, y5, y6, y7, y8, y9, y10, y11, y12, y13, y14, b1, b2, hms, hsl, t1, t2, t3, t4, okE, isF_obs, isF_ints, isF_cdrs, isF_diss, List.length_map, Nat.zero_add, Nat.le_refl, List.drop_zero, Nat.add_eq_left, Nat.left_eq_add, Nat.add_assoc, Int.natCast_nonneg, Int.toNat_natCast, decL_enc Cod.dec_enc, true_and, and_true]
  · cases h
end Go.Proofs.Ytalhbhbkdfmhgaa
