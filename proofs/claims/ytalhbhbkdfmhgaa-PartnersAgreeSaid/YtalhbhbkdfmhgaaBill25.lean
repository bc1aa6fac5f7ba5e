/- Bill, and credits. -/
import Derived.Test.YtalhbhbkdfmhgaaCred25
namespace Go.Proofs.Ytalhbhbkdfmhgaa
set_option linter.all false
open Go.Idl
set_option maxHeartbeats 8000000
set_option maxRecDepth 100000
attribute [local go_sem] agPty agCdr agDis eqDis agDir agObj eqItm Try.underlying3 Try.underlying5 Try.underlying9 Try.underlying4
def crdE (p : PartyD) (c : CdrD) : Int := bif c.credit then crdS p c else 0
def billS (p : PartyD) (c : CdrD) : PartyD × Int := bif !(validP p == 0) then (p, validP p) else bif !(cdrS c == 0) then (p, cdrS c) else bif !decide (c.operator = p.name) then (p, 15) else bif hasI CdrD.id p.cdrs c.id then (p, 9) else bif !(crdE p c == 0) then (p, crdE p c) else bif decide ((p.cdrs.length : Int) ≥ 256) then (p, 3) else (⟨p.name, p.dir, p.cdrs ++ [c], p.disputes⟩, 0)
abbrev SBil : List V → Option V := FT fun (t : PartyD × CdrD × Unit) => if okS t.1 = true ∧ okDat t.1.dir.objects = true ∧ t.2.1.items.length ≤ 1000000 then some (billS t.1 t.2.1) else none
theorem con6 {Φ : Specs} (hg : Idl.Good Try.prog Φ) (h14 : Φ 14 = some SVlP) (h15 : Φ 15 = some SCdr) (h16 : Φ 16 = some SRcd) (h17 : Φ 17 = some SCkC) (hfr : Φ 18 = none) (h19 : Φ 19 = some SFrR) : Contract Try.prog 6 SBil := by
  refine conT hg k6 ic6 (by decide) fun C t r h => ?_
  obtain ⟨p, ⟨i1, i2, i3, i4, i5, i6, i7, i8, i9, i10, i11, i12, i13, i14⟩, u⟩ := t
  dsimp only at h
  split at h
  · rename_i hl
    obtain ⟨hl, hdat, hci⟩ := hl
    obtain ⟨hp, hpi⟩ := okS_iff.1 hl
    have hpo := okP_iff.2 hp
    have p1 := hp.c
    have p2 := hp.d
    have p3 := hp.o
    have p4 := hp.m
    cases h
    unfold billS
    dsimp only
    cases i13 with
    | false =>
      have hge := idxI_ge CdrD.id p.cdrs i1
      cases e1 : validP p == 0 with
      | false =>
        have e1' : (validP p != 0) = true := by simpa using e1
        simp +contextual only [go_sem, ↓reduceIte, Nat.reduceEqDiff, Nat.reduceAdd, Nat.reduceLeDiff, Nat.reduceLT, reduceCtorEq, c6, k6, h14, hpo, e1', Bool.not_false, cond_true, List.length_map, crdE, cond_true, cond_false, beq_self_eq_true]
      | true =>
        have e1' : (validP p != 0) = false := by simpa using e1
        cases e2 : cdrS (⟨i1, i2, i3, i4, i5, i6, i7, i8, i9, i10, i11, i12, false, i14⟩ : CdrD) == 0 with
        | false =>
          have e2' : (cdrS (⟨i1, i2, i3, i4, i5, i6, i7, i8, i9, i10, i11, i12, false, i14⟩ : CdrD) != 0) = true := by simpa using e2
          simp +contextual only [go_sem, ↓reduceIte, Nat.reduceEqDiff, Nat.reduceAdd, Nat.reduceLeDiff, Nat.reduceLT, reduceCtorEq, c6, k6, h14, h15, hpo, e1', e2', Bool.not_true, Bool.not_false, cond_true, cond_false, List.length_map, crdE, cond_true, cond_false, beq_self_eq_true]
        | true =>
          have e2' : (cdrS (⟨i1, i2, i3, i4, i5, i6, i7, i8, i9, i10, i11, i12, false, i14⟩ : CdrD) != 0) = false := by simpa using e2
          cases e3 : decide (i2 = p.name) with
          | false => simp +contextual only [go_sem, ↓reduceIte, Nat.reduceEqDiff, Nat.reduceAdd, Nat.reduceLeDiff, Nat.reduceLT, reduceCtorEq, c6, k6, h14, h15, hpo, e1', e2', e3, Bool.not_true, Bool.not_false, cond_true, cond_false, List.length_map, crdE, cond_true, cond_false, beq_self_eq_true]
          | true =>
            cases e4 : hasI CdrD.id p.cdrs i1 with
            | true =>
              rw [e4] at hge
              simp +contextual only [go_sem, ↓reduceIte, Nat.reduceEqDiff, Nat.reduceAdd, Nat.reduceLeDiff, Nat.reduceLT, reduceCtorEq, c6, k6, h14, h15, h16, p1, hge, hpo, e1', e2', e3, Bool.not_true, Bool.not_false, cond_true, cond_false, List.length_map, crdE, cond_true, cond_false, beq_self_eq_true]
            | false =>
              rw [e4] at hge
              cases e5 : decide ((p.cdrs.length : Int) ≥ 256) with
              | true => simp +contextual only [go_sem, ↓reduceIte, Nat.reduceEqDiff, Nat.reduceAdd, Nat.reduceLeDiff, Nat.reduceLT, reduceCtorEq, c6, k6, h14, h15, h16, p1, hge, hpo, e1', e2', e3, e5, Bool.not_true, Bool.not_false, cond_true, cond_false, List.length_map, crdE, cond_true, cond_false, beq_self_eq_true]
              | false =>
                simp +contextual only [go_sem, ↓reduceIte, Nat.reduceEqDiff, Nat.reduceAdd, Nat.reduceLeDiff, Nat.reduceLT, reduceCtorEq, c6, k6, h14, h15, h16, hfr, p1, hge, hpo, e1', e2', e3, e5, Bool.not_true, Bool.not_false, cond_true, cond_false, List.length_map, crdE, cond_true, cond_false, beq_self_eq_true]
                refine ct18 hg h19 (fun id hid => by (repeat (refine (updH_ne (by omega)).trans ?_)); rfl) hp hpi hdat fun τ' H' n' mid oid cid did hF => ?_
                obtain ⟨f1, f2, f3, f4, f5, f6, f7, f8, f9, f10, f11⟩ := hF
                have q1 : H' 1 = .live 14 [Cod.enc (⟨i1, i2, i3, i4, i5, i6, i7, i8, i9, i10, i11, i12, false, i14⟩ : CdrD)] true := (f11 1 (by omega)).trans (by (repeat (first | exact updH_at | refine (updH_ne (by omega)).trans ?_)))
                have q2 : H' 2 = .live 7 [zeroPy] true := (f11 2 (by omega)).trans (by (repeat (first | exact updH_at | refine (updH_ne (by omega)).trans ?_)))
                have u0 : H' n' = .unborn := f5 _ (Nat.le_refl _)
                have uk : ∀ k, H' (n' + k) = .unborn := fun k => f5 _ (by omega)
                have z1 : ∀ k, (n' + k = cid) = False := fun k => by simp; omega
                have z2 : (n' = cid) = False := by simp; omega
                have z3 : (cid = n') = False := by simp; omega
                have z4 : (2 = cid) = False := by simp; omega
                have z5 : (2 = n') = False := by simp; omega
                have z6 : (1 = n') = False := by simp; omega
                have z7 : ∀ k, (cid = n' + k) = False := fun k => by simp; omega
                have z8 : ∀ k, (1 = n' + k) = False := fun k => by simp; omega
                have z9 : ∀ k, (2 = n' + k) = False := fun k => by simp; omega
                have z10 : ∀ k, (n' + k = 2) = False := fun k => by simp; omega
                have z11 : ∀ k, (n' + k = 1) = False := fun k => by simp; omega
                have y1 : (mid = n') = False := by simp; omega
                have y2 : (oid = n') = False := by simp; omega
                have y3 : (did = n') = False := by simp; omega
                have y4 : (mid = cid) = False := by simp; omega
                have y5 : (oid = cid) = False := by simp; omega
                have y6 : (did = cid) = False := by simp; omega
                have y7 : (mid = 2) = False := by simp; omega
                have y8 : (oid = 2) = False := by simp; omega
                have y9 : (did = 2) = False := by simp; omega
                have y10 : (cid = 2) = False := by simp; omega
                have y11 : (n' = 2) = False := by simp; omega
                have y12 : ∀ k, (mid = n' + k) = False := fun k => by simp; omega
                have y13 : ∀ k, (oid = n' + k) = False := fun k => by simp; omega
                have y14 : ∀ k, (did = n' + k) = False := fun k => by simp; omega
                have y15 : (n' = 1) = False := by simp; omega
                have b1 : (p.cdrs.length + 1) * 184 ≤ 68719476736 := by omega
                have b2 : p.cdrs.length + 1 ≤ 4294967296 := by omega
                have hms : (p.cdrs.map Cod.enc ++ [.agg [.sc (.string i1), .sc (.string i2), .sc (.string i3), .sc (.string i4), .sc (.int .i64 i5), .sc (.int .i64 i6), .sc (.int .i64 i7), .sc (.int .i64 i8), .sc (.string i9), .sc (.string i10), .slice 7 (i11.map Cod.enc), .sc (.int .i64 i12), .sc (.bool false), .sc (.string i14)]] : List V) = (p.cdrs ++ [(⟨i1, i2, i3, i4, i5, i6, i7, i8, i9, i10, i11, i12, false, i14⟩ : CdrD)]).map Cod.enc := by rw [List.map_append]; rfl
                generalize hbl : (p.cdrs ++ [(⟨i1, i2, i3, i4, i5, i6, i7, i8, i9, i10, i11, i12, false, i14⟩ : CdrD)]) = B at hms ⊢
                have hsl : B.length = p.cdrs.length + 1 := by rw [← hbl]; simp
                have t1 : (p.dir.marks.map Cod.enc : List V).take p.dir.marks.length = p.dir.marks.map Cod.enc := List.take_of_length_le (by simp)
                have t2 : (p.dir.objects.map Cod.enc : List V).take p.dir.objects.length = p.dir.objects.map Cod.enc := List.take_of_length_le (by simp)
                have t3 : (p.disputes.map Cod.enc : List V).take p.disputes.length = p.disputes.map Cod.enc := List.take_of_length_le (by simp)
                have t4 : (B.map Cod.enc : List V).take (p.cdrs.length + 1) = B.map Cod.enc := List.take_of_length_le (by simp [hsl])
                simp +contextual only [go_sem, ↓reduceIte, Nat.reduceEqDiff, Nat.reduceAdd, Nat.reduceLeDiff, Nat.reduceLT, reduceCtorEq, k6, outP, zeroPy, h19, hci, q1, q2, f1, f2, f3, f4, u0, uk, z1, z2, z3, z4, z5, z6, z7, z8, z9, z10, z11, y1, y2, y3, y4, y5, y6, y7, y8, y9, y10, y11, y12, y13, y14, y15, b1, b2, hms, hsl, t1, t2, t3, t4, okE, isF_obs, isF_ints, isF_cdrs, isF_diss, isF_items, okE_items, List.length_map, Nat.zero_add, Nat.le_refl, List.drop_zero, Nat.add_eq_left, Nat.left_eq_add, Nat.add_assoc, Int.natCast_nonneg, Int.toNat_natCast, decL_enc Cod.dec_enc, true_and, and_true]
                simp [apartI, apartAll, clash, List.range, List.range.loop, z1, z2, z3, z4, z5, z6, z7, z8, z9, z10, z11, y1, y2, y3, y15]; exact ⟨⟨.inl (by decide), by decide⟩, by decide⟩
    | true =>
      have hge := idxI_ge CdrD.id p.cdrs i1
      cases e1 : validP p == 0 with
      | false =>
        have e1' : (validP p != 0) = true := by simpa using e1
        simp +contextual only [go_sem, ↓reduceIte, Nat.reduceEqDiff, Nat.reduceAdd, Nat.reduceLeDiff, Nat.reduceLT, reduceCtorEq, c6, k6, h14, hpo, e1', Bool.not_false, cond_true, List.length_map, crdE, cond_true, cond_false, beq_self_eq_true]
      | true =>
        have e1' : (validP p != 0) = false := by simpa using e1
        cases e2 : cdrS (⟨i1, i2, i3, i4, i5, i6, i7, i8, i9, i10, i11, i12, true, i14⟩ : CdrD) == 0 with
        | false =>
          have e2' : (cdrS (⟨i1, i2, i3, i4, i5, i6, i7, i8, i9, i10, i11, i12, true, i14⟩ : CdrD) != 0) = true := by simpa using e2
          simp +contextual only [go_sem, ↓reduceIte, Nat.reduceEqDiff, Nat.reduceAdd, Nat.reduceLeDiff, Nat.reduceLT, reduceCtorEq, c6, k6, h14, h15, hpo, e1', e2', Bool.not_true, Bool.not_false, cond_true, cond_false, List.length_map, crdE, cond_true, cond_false, beq_self_eq_true]
        | true =>
          have e2' : (cdrS (⟨i1, i2, i3, i4, i5, i6, i7, i8, i9, i10, i11, i12, true, i14⟩ : CdrD) != 0) = false := by simpa using e2
          cases e3 : decide (i2 = p.name) with
          | false => simp +contextual only [go_sem, ↓reduceIte, Nat.reduceEqDiff, Nat.reduceAdd, Nat.reduceLeDiff, Nat.reduceLT, reduceCtorEq, c6, k6, h14, h15, hpo, e1', e2', e3, Bool.not_true, Bool.not_false, cond_true, cond_false, List.length_map, crdE, cond_true, cond_false, beq_self_eq_true]
          | true =>
            cases e4 : hasI CdrD.id p.cdrs i1 with
            | true =>
              rw [e4] at hge
              simp +contextual only [go_sem, ↓reduceIte, Nat.reduceEqDiff, Nat.reduceAdd, Nat.reduceLeDiff, Nat.reduceLT, reduceCtorEq, c6, k6, h14, h15, h16, p1, hge, hpo, e1', e2', e3, Bool.not_true, Bool.not_false, cond_true, cond_false, List.length_map, crdE, cond_true, cond_false, beq_self_eq_true]
            | false =>
              rw [e4] at hge
              cases e6 : crdS p (⟨i1, i2, i3, i4, i5, i6, i7, i8, i9, i10, i11, i12, true, i14⟩ : CdrD) == 0 with
              | false =>
                have e6' : (crdS p (⟨i1, i2, i3, i4, i5, i6, i7, i8, i9, i10, i11, i12, true, i14⟩ : CdrD) != 0) = true := by simpa using e6
                simp +contextual only [go_sem, ↓reduceIte, Nat.reduceEqDiff, Nat.reduceAdd, Nat.reduceLeDiff, Nat.reduceLT, reduceCtorEq, c6, k6, h14, h15, h16, h17, e6, e6', p1, hge, hpo, e1', e2', e3, Bool.not_true, Bool.not_false, cond_true, cond_false, List.length_map, crdE]
              | true =>
                have e6' : (crdS p (⟨i1, i2, i3, i4, i5, i6, i7, i8, i9, i10, i11, i12, true, i14⟩ : CdrD) != 0) = false := by simpa using e6
                cases e5 : decide ((p.cdrs.length : Int) ≥ 256) with
                | true => simp +contextual only [go_sem, ↓reduceIte, Nat.reduceEqDiff, Nat.reduceAdd, Nat.reduceLeDiff, Nat.reduceLT, reduceCtorEq, c6, k6, h14, h15, h16, h17, e6, e6', p1, hge, hpo, e1', e2', e3, e5, Bool.not_true, Bool.not_false, cond_true, cond_false, List.length_map, crdE, cond_true, cond_false, beq_self_eq_true]
                | false =>
                  simp +contextual only [go_sem, ↓reduceIte, Nat.reduceEqDiff, Nat.reduceAdd, Nat.reduceLeDiff, Nat.reduceLT, reduceCtorEq, c6, k6, h14, h15, h16, h17, e6, e6', hfr, p1, hge, hpo, e1', e2', e3, e5, Bool.not_true, Bool.not_false, cond_true, cond_false, List.length_map, crdE, cond_true, cond_false, beq_self_eq_true]
                  refine ct18 hg h19 (fun id hid => by (repeat (refine (updH_ne (by omega)).trans ?_)); rfl) hp hpi hdat fun τ' H' n' mid oid cid did hF => ?_
                  obtain ⟨f1, f2, f3, f4, f5, f6, f7, f8, f9, f10, f11⟩ := hF
                  have q1 : H' 1 = .live 14 [Cod.enc (⟨i1, i2, i3, i4, i5, i6, i7, i8, i9, i10, i11, i12, true, i14⟩ : CdrD)] true := (f11 1 (by omega)).trans (by (repeat (first | exact updH_at | refine (updH_ne (by omega)).trans ?_)))
                  have q2 : H' 2 = .live 7 [zeroPy] true := (f11 2 (by omega)).trans (by (repeat (first | exact updH_at | refine (updH_ne (by omega)).trans ?_)))
                  have u0 : H' n' = .unborn := f5 _ (Nat.le_refl _)
                  have uk : ∀ k, H' (n' + k) = .unborn := fun k => f5 _ (by omega)
                  have z1 : ∀ k, (n' + k = cid) = False := fun k => by simp; omega
                  have z2 : (n' = cid) = False := by simp; omega
                  have z3 : (cid = n') = False := by simp; omega
                  have z4 : (2 = cid) = False := by simp; omega
                  have z5 : (2 = n') = False := by simp; omega
                  have z6 : (1 = n') = False := by simp; omega
                  have z7 : ∀ k, (cid = n' + k) = False := fun k => by simp; omega
                  have z8 : ∀ k, (1 = n' + k) = False := fun k => by simp; omega
                  have z9 : ∀ k, (2 = n' + k) = False := fun k => by simp; omega
                  have z10 : ∀ k, (n' + k = 2) = False := fun k => by simp; omega
                  have z11 : ∀ k, (n' + k = 1) = False := fun k => by simp; omega
                  have y1 : (mid = n') = False := by simp; omega
                  have y2 : (oid = n') = False := by simp; omega
                  have y3 : (did = n') = False := by simp; omega
                  have y4 : (mid = cid) = False := by simp; omega
                  have y5 : (oid = cid) = False := by simp; omega
                  have y6 : (did = cid) = False := by simp; omega
                  have y7 : (mid = 2) = False := by simp; omega
                  have y8 : (oid = 2) = False := by simp; omega
                  have y9 : (did = 2) = False := by simp; omega
                  have y10 : (cid = 2) = False := by simp; omega
                  have y11 : (n' = 2) = False := by simp; omega
                  have y12 : ∀ k, (mid = n' + k) = False := fun k => by simp; omega
                  have y13 : ∀ k, (oid = n' + k) = False := fun k => by simp; omega
                  have y14 : ∀ k, (did = n' + k) = False := fun k => by simp; omega
                  have y15 : (n' = 1) = False := by simp; omega
                  have b1 : (p.cdrs.length + 1) * 184 ≤ 68719476736 := by omega
                  have b2 : p.cdrs.length + 1 ≤ 4294967296 := by omega
                  have hms : (p.cdrs.map Cod.enc ++ [.agg [.sc (.string i1), .sc (.string i2), .sc (.string i3), .sc (.string i4), .sc (.int .i64 i5), .sc (.int .i64 i6), .sc (.int .i64 i7), .sc (.int .i64 i8), .sc (.string i9), .sc (.string i10), .slice 7 (i11.map Cod.enc), .sc (.int .i64 i12), .sc (.bool true), .sc (.string i14)]] : List V) = (p.cdrs ++ [(⟨i1, i2, i3, i4, i5, i6, i7, i8, i9, i10, i11, i12, true, i14⟩ : CdrD)]).map Cod.enc := by rw [List.map_append]; rfl
                  generalize hbl : (p.cdrs ++ [(⟨i1, i2, i3, i4, i5, i6, i7, i8, i9, i10, i11, i12, true, i14⟩ : CdrD)]) = B at hms ⊢
                  have hsl : B.length = p.cdrs.length + 1 := by rw [← hbl]; simp
                  have t1 : (p.dir.marks.map Cod.enc : List V).take p.dir.marks.length = p.dir.marks.map Cod.enc := List.take_of_length_le (by simp)
                  have t2 : (p.dir.objects.map Cod.enc : List V).take p.dir.objects.length = p.dir.objects.map Cod.enc := List.take_of_length_le (by simp)
                  have t3 : (p.disputes.map Cod.enc : List V).take p.disputes.length = p.disputes.map Cod.enc := List.take_of_length_le (by simp)
                  have t4 : (B.map Cod.enc : List V).take (p.cdrs.length + 1) = B.map Cod.enc := List.take_of_length_le (by simp [hsl])
                  simp +contextual only [go_sem, ↓reduceIte, Nat.reduceEqDiff, Nat.reduceAdd, Nat.reduceLeDiff, Nat.reduceLT, reduceCtorEq, k6, outP, zeroPy, h19, hci, q1, q2, f1, f2, f3, f4, u0, uk, z1, z2, z3, z4, z5, z6, z7, z8, z9, z10, z11, y1, y2, y3, y4, y5, y6, y7, y8, y9, y10, y11, y12, y13, y14, y15, b1, b2, hms, hsl, t1, t2, t3, t4, okE, isF_obs, isF_ints, isF_cdrs, isF_diss, isF_items, okE_items, List.length_map, Nat.zero_add, Nat.le_refl, List.drop_zero, Nat.add_eq_left, Nat.left_eq_add, Nat.add_assoc, Int.natCast_nonneg, Int.toNat_natCast, decL_enc Cod.dec_enc, true_and, and_true]
                  simp [apartI, apartAll, clash, List.range, List.range.loop, z1, z2, z3, z4, z5, z6, z7, z8, z9, z10, z11, y1, y2, y3, y15]; exact ⟨⟨.inl (by decide), by decide⟩, by decide⟩
  · cases h
end Go.Proofs.Ytalhbhbkdfmhgaa
