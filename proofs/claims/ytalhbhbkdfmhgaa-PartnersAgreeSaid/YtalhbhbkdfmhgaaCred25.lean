/- Credits. -/
import Derived.Test.YtalhbhbkdfmhgaaRoam48k
namespace Go.Proofs.Ytalhbhbkdfmhgaa
set_option linter.all false
open Go.Idl
set_option maxHeartbeats 8000000
set_option maxRecDepth 100000
attribute [local go_sem] agPty agCdr agDis eqDis agDir agObj eqItm Try.underlying3 Try.underlying5 Try.underlying9 Try.underlying4
def crdB (r c : CdrD) : Bool := !decide (r.provider = c.provider) || !decide (r.session = c.session) || !decide (r.currency = c.currency) || r.credit || (r.total != IntKind.i64.wrap (0 - c.total))
def crdS (p : PartyD) (c : CdrD) : Int := match getI CdrD.id p.cdrs c.ref with
  | none => 8
  | some r => bif crdB r c then 23 else bif p.cdrs.any (fun o => o.credit && decide (o.ref = c.ref)) then 10 else 0
abbrev SCkC : List V → Option V := FT fun (t : PartyD × CdrD × Unit) => if t.1.cdrs.length ≤ 1000000 then some (crdS t.1 t.2.1) else none
theorem con17 {Φ : Specs} (hg : Idl.Good Try.prog Φ) (h16 : Φ 16 = some SRcd) : Contract Try.prog 17 SCkC := by
  refine conT hg k17 ic17 (by decide) fun C t r h => ?_
  obtain ⟨p, c, u⟩ := t
  dsimp only at h
  split at h
  case isFalse => cases h
  rename_i hl
  cases h
  rcases idxI_get CdrD.id c.ref p.cdrs 0 with ⟨e1, e2⟩ | ⟨j, x, _, e1, hx, e2⟩
  · have t1 : decide ((-1 : Int) < 0) = true := rfl
    have e3 : crdS p c = 8 := by rw [crdS, e2]
    simp +contextual only [go_sem, ↓reduceIte, Nat.reduceEqDiff, Nat.reduceAdd, Nat.reduceLeDiff, Nat.reduceLT, reduceCtorEq, c17, k17, h16, hl, e1, t1, e3, List.length_map]
    try rfl
  · rw [Nat.sub_zero] at hx
    have t1 : decide (((j : Nat) : Int) < 0) = false := by simp
    have hj := (List.getElem?_eq_some_iff.1 hx).1
    have hj' : ((j : Nat) : Int) < ((p.cdrs.length : Nat) : Int) := by omega
    have e3 : crdS p c = bif crdB x c then 23 else bif p.cdrs.any (fun o => o.credit && decide (o.ref = c.ref)) then 10 else 0 := by rw [crdS, e2]
    cases hb : crdB x c with
    | true =>
      rw [hb, cond_true] at e3
      unfold crdB at hb
      simp +contextual only [go_sem, ↓reduceIte, Nat.reduceEqDiff, Nat.reduceAdd, Nat.reduceLeDiff, Nat.reduceLT, reduceCtorEq, c17, k17, h16, hl, e1, t1, e3, hx, hj', hb, List.length_map, List.getElem?_map, Option.map_some, Int.natCast_nonneg, Int.toNat_natCast]
    | false =>
      rw [hb, cond_false] at e3
      unfold crdB at hb
      simp +contextual only [go_sem, ↓reduceIte, Nat.reduceEqDiff, Nat.reduceAdd, Nat.reduceLeDiff, Nat.reduceLT, reduceCtorEq, c17, k17, h16, hl, e1, t1, hx, hj', hb, List.length_map, List.getElem?_map, Option.map_some, Int.natCast_nonneg, Int.toNat_natCast]
      refine TriI.loopL hg k17 p.cdrs (fun i (_ : Unit) => ⟨slotsL [(3, .ref 1 0 0), (52, Cod.enc p.cdrs), (53, .sc (.int .i64 p.cdrs.length)), (54, .sc (.int .i64 i))], objsL [.live 7 [Cod.enc p] true, .live 14 [Cod.enc c] true], 2⟩)
        (fun xs _ => p.cdrs.any (fun o => o.credit && decide (o.ref = c.ref)) = xs.any (fun o => o.credit && decide (o.ref = c.ref))) () (.back rfl ?_) rfl ?_ ?_
      · simp +contextual only [go_sem, ↓reduceIte, Nat.reduceEqDiff, Nat.reduceAdd, Nat.reduceLeDiff, Nat.reduceLT, reduceCtorEq, List.length_map]
        rfl
      · intro _ hinv
        have e4 : crdS p c = 0 := by rw [e3, hinv]; rfl
        simp +contextual only [go_sem, ↓reduceIte, Nat.reduceEqDiff, Nat.reduceAdd, Nat.reduceLeDiff, Nat.reduceLT, reduceCtorEq, k17, Int.lt_irrefl, decide_false, List.length_map, e4]
      · intro i _ y ys hdr hlt hy hinv
        have hw := wrap_nat hlt (by omega)
        rw [List.any_cons] at hinv
        cases hq : (y.credit && decide (y.ref = c.ref)) with
        | true =>
          have e4 : crdS p c = 10 := by rw [e3, hinv, hq]; rfl
          simp +contextual only [go_sem, ↓reduceIte, Nat.reduceEqDiff, Nat.reduceAdd, Nat.reduceLeDiff, Nat.reduceLT, reduceCtorEq, k17, lt_dec hlt, hy, hw, hq, e4, List.length_map, List.getElem?_map, Option.map_some, Int.natCast_nonneg, Int.toNat_natCast]
        | false =>
          rw [hq, Bool.false_or] at hinv
          simp +contextual only [go_sem, ↓reduceIte, Nat.reduceEqDiff, Nat.reduceAdd, Nat.reduceLeDiff, Nat.reduceLT, reduceCtorEq, k17, lt_dec hlt, hy, hw, hq, List.length_map, List.getElem?_map, Option.map_some, Int.natCast_nonneg, Int.toNat_natCast]
          refine ⟨(), hinv, .back rfl ?_⟩
          simp +contextual only [go_sem, ↓reduceIte, Nat.reduceEqDiff, Nat.reduceAdd, Nat.reduceLeDiff, Nat.reduceLT, reduceCtorEq, List.length_map, low_cdrs, low_diss]
theorem fill_set {α : Type} (f : α → V) (z : V) {l : List α} {i : Nat} {x : α} (h : l[i]? = some x) : ((l.take i).map f ++ List.replicate (l.length - i) z).set i (f x) = (l.take (i + 1)).map f ++ List.replicate (l.length - (i + 1)) z := by
  have hi := (List.getElem?_eq_some_iff.1 h).1
  have h1 : ((l.take i).map f).length = i := by rw [List.length_map, List.length_take]; omega
  rw [List.set_append_right _ _ (by omega), h1, Nat.sub_self, show l.length - i = (l.length - (i + 1)) + 1 by omega, List.replicate_succ, List.set_cons_zero, List.take_succ, h, List.map_append, List.append_assoc]
  rfl
theorem low_repl (m n : Nat) (z : V) (h : z.low m = true) : (List.replicate n z).all (V.low m) = true := List.all_eq_true.2 fun x hx => by rw [List.eq_of_mem_replicate hx]; exact h
theorem low_mapF (m : Nat) {α : Type} (l : List α) (f : α → V) (h : ∀ j, (f j).low m = true) : (l.map f).all (V.low m) = true := List.all_eq_true.2 fun x hx => by
  obtain ⟨j, _, rfl⟩ := List.mem_map.1 hx
  exact h j
def negI (x : ItemD) : ItemD := ⟨x.kind, IntKind.i64.wrap (0 - x.price), x.tax, x.quantity, IntKind.i64.wrap (0 - x.net), IntKind.i64.wrap (0 - x.vat), IntKind.i64.wrap (0 - x.gross)⟩
def nzL (l : List ItemD) (i : Nat) : List V := (l.take i).map (fun x => Cod.enc (negI x)) ++ List.replicate (l.length - i) (Cod.enc (⟨0, 0, 0, 0, 0, 0, 0⟩ : ItemD))
theorem nz_zero (l : List ItemD) : nzL l 0 = List.replicate l.length (.agg [.sc (.int .i64 0), .sc (.int .i64 0), .sc (.int .i64 0), .sc (.int .i64 0), .sc (.int .i64 0), .sc (.int .i64 0), .sc (.int .i64 0)]) := rfl
theorem nz_all (l : List ItemD) : nzL l l.length = (l.map negI).map Cod.enc := by
  rw [nzL, List.take_of_length_le (Nat.le_refl _), Nat.sub_self, List.replicate_zero, List.append_nil, List.map_map]; rfl
theorem nz_set {l : List ItemD} {i : Nat} {x : ItemD} (h : l[i]? = some x) : (nzL l i).set i (.agg [.sc (.int .i64 x.kind), .sc (.int .i64 (IntKind.i64.wrap (0 - x.price))), .sc (.int .i64 x.tax), .sc (.int .i64 x.quantity), .sc (.int .i64 (IntKind.i64.wrap (0 - x.net))), .sc (.int .i64 (IntKind.i64.wrap (0 - x.vat))), .sc (.int .i64 (IntKind.i64.wrap (0 - x.gross)))]) = nzL l (i + 1) := fill_set (fun x => (Cod.enc (negI x) : V)) _ h
theorem nz_at {l : List ItemD} {i : Nat} (h : i < l.length) : (nzL l i)[i]? = some (.agg [.sc (.int .i64 0), .sc (.int .i64 0), .sc (.int .i64 0), .sc (.int .i64 0), .sc (.int .i64 0), .sc (.int .i64 0), .sc (.int .i64 0)]) := by
  have h1 : ((l.take i).map fun x => (Cod.enc (negI x) : V)).length = i := by rw [List.length_map, List.length_take]; omega
  rw [nzL, List.getElem?_append_right (by omega), h1, Nat.sub_self, List.getElem?_replicate, if_pos (by omega)]
  rfl
theorem nz_low (n : Nat) (l : List ItemD) (i : Nat) : (nzL l i).all (V.low n) = true := by
  rw [nzL, List.all_append, low_mapF n _ _ (fun _ => rfl), low_repl n _ _ rfl]; rfl
abbrev SNeg : List V → Option V := FT fun (t : List ItemD × Unit) => if t.1.length ≤ 1000000 then some (t.1.map negI) else none
theorem con20 {Φ : Specs} (hg : Idl.Good Try.prog Φ) : Contract Try.prog 20 SNeg := by
  refine conT hg k20 ic20 (by decide) fun C t r h => ?_
  obtain ⟨l, u⟩ := t
  dsimp only at h
  split at h
  case isFalse => cases h
  rename_i hl
  cases h
  have b1 : l.length ≤ 4294967296 := by omega
  have b4 : (0 : Int) ≤ (l.length : Int) := by omega
  have b5 : (l.length : Int) ≤ 4294967296 := by omega
  have b6 : 56 * l.length ≤ 281474976710656 := by omega
  simp +contextual only [go_sem, ↓reduceIte, Nat.reduceEqDiff, Nat.reduceAdd, Nat.reduceLeDiff, Nat.reduceLT, reduceCtorEq, c20, k20, List.length_map, b4, b5, b6, Int.toNat_natCast, Int.le_refl, and_self]
  refine TriI.loopL hg k20 l (fun i (_ : Unit) => ⟨slotsL [(3, .own 0 0 l.length), (9, Cod.enc l), (10, .sc (.int .i64 l.length)), (11, .sc (.int .i64 i))], objsL [.live 7 (nzL l i) true], 1⟩)
    (fun _ _ => True) () (.back rfl ?_) trivial ?_ ?_
  · simp +contextual only [go_sem, ↓reduceIte, Nat.reduceEqDiff, Nat.reduceAdd, Nat.reduceLeDiff, Nat.reduceLT, reduceCtorEq, List.length_map, nz_zero]
    exact ⟨rfl, low_repl _ _ _ rfl⟩
  · intro _ _
    have e2 : ((l.map negI).map (Cod.enc : ItemD → V)).take l.length = (l.map negI).map Cod.enc := List.take_of_length_le (by simp)
    simp +contextual only [go_sem, ↓reduceIte, Nat.reduceEqDiff, Nat.reduceAdd, Nat.reduceLeDiff, Nat.reduceLT, reduceCtorEq, k20, Int.lt_irrefl, decide_false, nz_all, e2, List.length_map, Nat.zero_add, Nat.le_refl, isF_items, decL_enc Cod.dec_enc, true_and, and_true]
  · intro i _ x xs hdr hlt hx _
    have hw := wrap_nat hlt (by omega)
    have hlt' : ((i : Nat) : Int) < ((l.length : Nat) : Int) := by omega
    have e1 := nz_set hx
    have e2 := nz_at hlt
    simp +contextual only [go_sem, ↓reduceIte, Nat.reduceEqDiff, Nat.reduceAdd, Nat.reduceLeDiff, Nat.reduceLT, reduceCtorEq, k20, lt_dec hlt, hlt', hx, hw, e1, e2, List.length_map, List.getElem?_map, Option.map_some, Int.natCast_nonneg, Int.toNat_natCast, Nat.zero_add]
    refine ⟨(), trivial, .back rfl ?_⟩
    simp +contextual only [go_sem, ↓reduceIte, Nat.reduceEqDiff, Nat.reduceAdd, Nat.reduceLeDiff, Nat.reduceLT, reduceCtorEq, List.length_map, nz_low]
def zeC : CdrD := ⟨⟨#[]⟩, ⟨#[]⟩, ⟨#[]⟩, ⟨#[]⟩, 0, 0, 0, 0, ⟨#[]⟩, ⟨#[]⟩, [], 0, false, ⟨#[]⟩⟩
def crS (c : CdrD) (id : ByteArray) : CdrD × Int := bif !(cdrS c == 0) then (zeC, cdrS c) else bif c.credit then (zeC, 10) else bif !okName id then (zeC, 4) else bif decide (id = c.id) then (zeC, 9) else
  (⟨id, c.operator, c.provider, c.session, c.version, c.start, c.stop, c.energy, c.tariff, c.currency, c.items.map negI, IntKind.i64.wrap (0 - c.total), true, c.id⟩, 0)
abbrev SCrt : List V → Option V := FT fun (t : CdrD × ByteArray × Unit) => if t.1.items.length ≤ 1000000 then some (crS t.1 t.2.1) else none
theorem con7 {Φ : Specs} (hg : Idl.Good Try.prog Φ) (h15 : Φ 15 = some SCdr) (h12 : Φ 12 = some F12) (h20 : Φ 20 = some SNeg) : Contract Try.prog 7 SCrt := by
  refine conT hg k7 ic7 (by decide) fun C t r h => ?_
  obtain ⟨⟨i1, i2, i3, i4, i5, i6, i7, i8, i9, i10, i11, i12, i13, i14⟩, id, u⟩ := t
  dsimp only at h
  split at h
  case isFalse => cases h
  rename_i hl
  cases h
  cases i13 with
  | true =>
    have e0 : crS (⟨i1, i2, i3, i4, i5, i6, i7, i8, i9, i10, i11, i12, true, i14⟩ : CdrD) id = bif !(cdrS (⟨i1, i2, i3, i4, i5, i6, i7, i8, i9, i10, i11, i12, true, i14⟩ : CdrD) == 0) then (zeC, cdrS (⟨i1, i2, i3, i4, i5, i6, i7, i8, i9, i10, i11, i12, true, i14⟩ : CdrD)) else bif true then (zeC, 10) else bif !okName id then (zeC, 4) else bif decide (id = i1) then (zeC, 9) else
      (⟨id, i2, i3, i4, i5, i6, i7, i8, i9, i10, i11.map negI, IntKind.i64.wrap (0 - i12), true, i1⟩, 0) := rfl
    rw [e0]
    cases e1 : cdrS (⟨i1, i2, i3, i4, i5, i6, i7, i8, i9, i10, i11, i12, true, i14⟩ : CdrD) == 0 with
    | false =>
      have e1' : (cdrS (⟨i1, i2, i3, i4, i5, i6, i7, i8, i9, i10, i11, i12, true, i14⟩ : CdrD) != 0) = true := by simpa using e1
      simp +contextual only [go_sem, ↓reduceIte, Nat.reduceEqDiff, Nat.reduceAdd, Nat.reduceLeDiff, Nat.reduceLT, reduceCtorEq, c7, k7, h15, h12, F12, h20, hl, List.length_map, Bool.not_true, Bool.not_false, cond_true, cond_false, zeC, isF_items, e1']
      try rfl
    | true =>
      have e1' : (cdrS (⟨i1, i2, i3, i4, i5, i6, i7, i8, i9, i10, i11, i12, true, i14⟩ : CdrD) != 0) = false := by simpa using e1
      simp +contextual only [go_sem, ↓reduceIte, Nat.reduceEqDiff, Nat.reduceAdd, Nat.reduceLeDiff, Nat.reduceLT, reduceCtorEq, c7, k7, h15, h12, F12, h20, hl, List.length_map, Bool.not_true, Bool.not_false, cond_true, cond_false, zeC, isF_items, e1']
      try rfl
  | false =>
    have e0 : crS (⟨i1, i2, i3, i4, i5, i6, i7, i8, i9, i10, i11, i12, false, i14⟩ : CdrD) id = bif !(cdrS (⟨i1, i2, i3, i4, i5, i6, i7, i8, i9, i10, i11, i12, false, i14⟩ : CdrD) == 0) then (zeC, cdrS (⟨i1, i2, i3, i4, i5, i6, i7, i8, i9, i10, i11, i12, false, i14⟩ : CdrD)) else bif false then (zeC, 10) else bif !okName id then (zeC, 4) else bif decide (id = i1) then (zeC, 9) else
      (⟨id, i2, i3, i4, i5, i6, i7, i8, i9, i10, i11.map negI, IntKind.i64.wrap (0 - i12), true, i1⟩, 0) := rfl
    rw [e0]
    cases e1 : cdrS (⟨i1, i2, i3, i4, i5, i6, i7, i8, i9, i10, i11, i12, false, i14⟩ : CdrD) == 0 with
    | false =>
      have e1' : (cdrS (⟨i1, i2, i3, i4, i5, i6, i7, i8, i9, i10, i11, i12, false, i14⟩ : CdrD) != 0) = true := by simpa using e1
      simp +contextual only [go_sem, ↓reduceIte, Nat.reduceEqDiff, Nat.reduceAdd, Nat.reduceLeDiff, Nat.reduceLT, reduceCtorEq, c7, k7, h15, h12, F12, h20, hl, List.length_map, Bool.not_true, Bool.not_false, cond_true, cond_false, zeC, isF_items, e1']
      try rfl
    | true =>
      have e1' : (cdrS (⟨i1, i2, i3, i4, i5, i6, i7, i8, i9, i10, i11, i12, false, i14⟩ : CdrD) != 0) = false := by simpa using e1
      cases e3 : okName id with
      | false =>
        simp +contextual only [go_sem, ↓reduceIte, Nat.reduceEqDiff, Nat.reduceAdd, Nat.reduceLeDiff, Nat.reduceLT, reduceCtorEq, c7, k7, h15, h12, F12, h20, hl, List.length_map, Bool.not_true, Bool.not_false, cond_true, cond_false, zeC, isF_items, e1', e3]
        try rfl
      | true =>
        cases e4 : decide (id = i1) with
        | true =>
          simp +contextual only [go_sem, ↓reduceIte, Nat.reduceEqDiff, Nat.reduceAdd, Nat.reduceLeDiff, Nat.reduceLT, reduceCtorEq, c7, k7, h15, h12, F12, h20, hl, List.length_map, Bool.not_true, Bool.not_false, cond_true, cond_false, zeC, isF_items, e1', e3, e4]
          try rfl
        | false =>
          simp +contextual only [go_sem, ↓reduceIte, Nat.reduceEqDiff, Nat.reduceAdd, Nat.reduceLeDiff, Nat.reduceLT, reduceCtorEq, c7, k7, h15, h12, F12, h20, hl, List.length_map, Bool.not_true, Bool.not_false, cond_true, cond_false, zeC, isF_items, e1', e3, e4]
          exact ⟨rfl, rfl⟩
end Go.Proofs.Ytalhbhbkdfmhgaa
