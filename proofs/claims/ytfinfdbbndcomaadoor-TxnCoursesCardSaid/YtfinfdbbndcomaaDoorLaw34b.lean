/- The law of courses. -/
import Derived.Test.YtfinfdbbndcomaaDoorCour34
namespace Go.Proofs.YtfinfdbbndcomaaDoor
set_option linter.all false
open Go.Idl
set_option maxHeartbeats 8000000
set_option maxRecDepth 100000
attribute [local go_sem] Tryd.underlying3 Tryd.underlying5 Tryd.underlying9 Tryd.underlying4 agTxn agEv eqTxn
theorem low_evs (n : Nat) (l : List EvD) : (l.map Cod.enc).all (V.low n) = true := by
  simp only [List.all_map, List.all_eq_true]
  intro x _
  rfl
theorem con7 {Φ : Specs} (hg : Idl.Good Tryd.prog Φ) (h9 : Φ 9 = some Aw) (h12 : Φ 12 = some SBeg) (h16 : Φ 16 = some SUpd) (h18 : Φ 18 = some SEnd) (h14 : Φ 14 = some SSame) (h15 : Φ 15 = some SEv) :
    Contract Tryd.prog 7 (FT fun (_ : CourseD × Unit) => some true) := by
  refine conT hg k7 ic7 (by decide) fun C t r h => ?_
  obtain ⟨c, u⟩ := t
  cases h
  obtain ⟨B, hB⟩ : ∃ B, begS c.begin_.station c.begin_.serial c.begin_.conn c.begin_.token c.begin_.reading c.begin_.offline = B := ⟨_, rfl⟩
  by_cases h0 : B.2.2 = 0
  · have hc0 := cour_beg (off := c.begin_.offline) (by rw [hB]; exact h0)
    rw [hB] at hc0
    obtain ⟨hc0, hst⟩ := hc0
    have h0' : (B.2.2 != 0) = false := by simp [h0]
    simp +contextual only [go_sem, ↓reduceIte, Nat.reduceEqDiff, Nat.reduceAdd, Nat.reduceLeDiff, Nat.reduceLT, reduceCtorEq, c7, k7, h9, h12, hB, h0', List.length_map]
    refine fun hgd => ?_
    simp only [Bool.or_eq_false_iff, decide_eq_false_iff_not] at hgd
    have hlen : c.readings.length ≤ 20 := by omega
    refine TriI.loopL hg k7 c.readings (fun i (a : TxnD × List EvD) => ⟨slotsL [(1, .ref 0 0 0), (3, .ref 1 0 0), (6, .own 2 0 a.2.length), (7, .sc (.int .i64 i))], objsL [.live 14 [Cod.enc c] true, .live 9 [Cod.enc a.1] true, .live 10 (a.2.map Cod.enc) true], 3⟩)
      (fun xs a => Cour c.begin_.station (idS c.begin_.station c.begin_.serial) a.1 a.2 ∧ a.2.length + xs.length ≤ 21) (B.1, [B.2.1]) (.ren [some 0, some 1, some 5] rfl rfl 0 ?_) ⟨hc0, by simp; omega⟩ ?_ ?_
    · simp +contextual only [go_sem, ↓reduceIte, Nat.reduceEqDiff, Nat.reduceAdd, Nat.reduceLeDiff, Nat.reduceLT, reduceCtorEq, List.length_cons, List.length_nil, List.map_cons, List.map_nil]
      rfl
    · rintro ⟨t, l⟩ ⟨hc, hl⟩
      dsimp only at hc hl ⊢
      have hl2 : l.length ≤ 21 := by simpa using hl
      obtain ⟨E, hE⟩ : ∃ E, endS t c.begin_.station t.last c.reason false = E := ⟨_, rfl⟩
      have he := cour_end hc hst (by omega) c.reason
      rw [hE] at he
      have hbb : ∀ b : Bool, (b != b) = false := fun b => by cases b <;> rfl
      have b1 : (l.length + 1) * 120 ≤ 68719476736 := by omega
      have b2 : l.length + 1 ≤ 4294967296 := by omega
      cases hb : inRea c.reason with
      | true =>
        rw [hb] at he
        have he0 : E.2.2 = 0 := by simpa using he
        have hF := fin_end (reason := c.reason) hc (by rw [hE]; exact he0)
        rw [hE] at hF
        have hr1 : (decide (c.reason ≥ 1) && decide (c.reason ≤ 6)) = true := hb
        simp +contextual only [go_sem, ↓reduceIte, Nat.reduceEqDiff, Nat.reduceAdd, Nat.reduceLeDiff, Nat.reduceLT, reduceCtorEq, k7, Int.lt_irrefl, decide_false, List.length_map, h18, hE, he, hr1, hbb, b1, b2, Nat.zero_add, List.drop_zero, true_and, and_true, okE]
        refine TriI.loopL hg k7 (l ++ [E.2.1]) (fun i (_ : Unit) => ⟨slotsL [(1, .ref 0 0 0), (3, .ref 1 0 0), (6, .own 2 0 (l ++ [E.2.1]).length), (15, .sc (.bool true)), (16, .sc (.int .i64 i))], objsL [.live 14 [Cod.enc c] true, .live 9 [Cod.enc t] true, .live 10 ((l ++ [E.2.1]).map Cod.enc) true], 3⟩)
          (fun _ _ => True) () (.ren [some 0, some 1, some 10] rfl rfl 0 ?_) trivial ?_ ?_
        · simp +contextual only [go_sem, ↓reduceIte, Nat.reduceEqDiff, Nat.reduceAdd, Nat.reduceLeDiff, Nat.reduceLT, reduceCtorEq, List.map_append, List.map_cons, List.map_nil, List.length_append, List.length_cons, List.length_nil, List.all_append, low_evs, Nat.zero_add]
          rfl
        · intro _ _
          simp +contextual only [go_sem, ↓reduceIte, Nat.reduceEqDiff, Nat.reduceAdd, Nat.reduceLeDiff, Nat.reduceLT, reduceCtorEq, k7, Int.lt_irrefl, decide_false, List.length_map, h9]
        · intro i _ e es hed helt hex _
          have hLn : (l ++ [E.2.1]).length ≤ 100 := by first | omega | (simp; omega)
          have hw := wrap_nat helt (by omega)
          obtain ⟨v1, v2, v3, v4, r, v5, v6⟩ := hF.ev i e hex
          have hee : (⟨e.station, e.txn, e.conn, e.seq, e.kind, e.time, e.token, e.offline, e.reason, [r]⟩ : EvD) = e := by rw [← v5]
          have w1 : (evS e != 0) = false := by simp [v1]
          have w2 : (e.seq != (i : Int)) = false := by simp [v2]
          have w3 : decide (e.txn = t.id) = true := by simp [v3, hc.idq]
          have w4 : decide (e.station = c.begin_.station) = true := by simp [v4]
          have w6 : (r.time != e.time) = false := by simp [v6]
          have w7 := hF.start i e hex
          have w8 := hF.fin i e hex
          have w9 : IntKind.i64.wrap ((((l ++ [E.2.1]).length : Nat) : Int) - 1) = (((l ++ [E.2.1]).length - 1 : Nat) : Int) := by rw [IntKind.wrap_i64]; omega
          have w10 : (((1 : Nat) : Int) != 1) = false := rfl
          generalize hLL : l ++ [E.2.1] = L at *
          cases i with
          | zero =>
            have g0 : decide (((0 : Nat) : Int) > 0) = false := rfl
            have hI : ((0 : Nat) : Int) < (L.length : Int) := by omega
            simp +contextual only [go_sem, ↓reduceIte, Nat.reduceEqDiff, Nat.reduceAdd, Nat.reduceLeDiff, Nat.reduceLT, reduceCtorEq, k7, lt_dec helt, hI, hex, hw, h15, hee, w1, w2, w3, w4, v5, w6, w7, w8, w9, w10, g0, hbb, Bool.true_and, Bool.false_and, Bool.not_true, List.length_map, List.getElem?_map, Option.map_some, Int.natCast_nonneg, Int.toNat_natCast, Nat.zero_add, List.map_cons, List.map_nil, List.length_cons, List.length_nil, List.getElem?_cons_zero, Int.le_refl, Int.toNat_zero]
            refine ⟨rfl, rfl, (), trivial, .back rfl ?_⟩
            simp +contextual only [go_sem, ↓reduceIte, Nat.reduceEqDiff, Nat.reduceAdd, Nat.reduceLeDiff, Nat.reduceLT, reduceCtorEq, hw, low_evs]
          | succ i =>
            have g1 : decide (((i + 1 : Nat) : Int) > 0) = true := by simp only [decide_eq_true_eq]; omega
            have hI : ((i + 1 : Nat) : Int) < (L.length : Int) := by omega
            have hI2 : ((i : Nat) : Int) < (L.length : Int) := by omega
            have hw1 : IntKind.i64.wrap (((i + 1 : Nat) : Int) - 1) = ((i : Nat) : Int) := by rw [IntKind.wrap_i64]; omega
            obtain ⟨p, hp⟩ : ∃ p, L[i]? = some p := ⟨L[i]'(by omega), by simp⟩
            have ht : decide (e.time < p.time) = false := by have := hF.tim i p e hp hex; simp; omega
            simp +contextual only [go_sem, ↓reduceIte, Nat.reduceEqDiff, Nat.reduceAdd, Nat.reduceLeDiff, Nat.reduceLT, reduceCtorEq, k7, lt_dec helt, hI, hI2, hex, hw, hw1, hp, ht, h15, hee, w1, w2, w3, w4, v5, w6, w7, w8, w9, w10, g1, hbb, Bool.true_and, Bool.false_and, Bool.not_true, List.length_map, List.getElem?_map, Option.map_some, Int.natCast_nonneg, Int.toNat_natCast, Nat.zero_add, List.map_cons, List.map_nil, List.length_cons, List.length_nil, List.getElem?_cons_zero, Int.le_refl, Int.toNat_zero]
            refine ⟨rfl, rfl, (), trivial, .back rfl ?_⟩
            simp +contextual only [go_sem, ↓reduceIte, Nat.reduceEqDiff, Nat.reduceAdd, Nat.reduceLeDiff, Nat.reduceLT, reduceCtorEq, hw, low_evs]
      | false =>
        rw [hb] at he
        have hF := fin_open hc
        have hr1 : (decide (c.reason ≥ 1) && decide (c.reason ≤ 6)) = false := hb
        simp +contextual only [go_sem, ↓reduceIte, Nat.reduceEqDiff, Nat.reduceAdd, Nat.reduceLeDiff, Nat.reduceLT, reduceCtorEq, k7, Int.lt_irrefl, decide_false, List.length_map, h18, hE, he, hr1, hbb]
        refine TriI.loopL hg k7 l (fun i (_ : Unit) => ⟨slotsL [(1, .ref 0 0 0), (3, .ref 1 0 0), (6, .own 2 0 l.length), (15, .sc (.bool false)), (16, .sc (.int .i64 i))], objsL [.live 14 [Cod.enc c] true, .live 9 [Cod.enc t] true, .live 10 (l.map Cod.enc) true], 3⟩)
          (fun _ _ => True) () (.back rfl ?_) trivial ?_ ?_
        · simp +contextual only [go_sem, ↓reduceIte, Nat.reduceEqDiff, Nat.reduceAdd, Nat.reduceLeDiff, Nat.reduceLT, reduceCtorEq, low_evs]
          rfl
        · intro _ _
          simp +contextual only [go_sem, ↓reduceIte, Nat.reduceEqDiff, Nat.reduceAdd, Nat.reduceLeDiff, Nat.reduceLT, reduceCtorEq, k7, Int.lt_irrefl, decide_false, List.length_map, h9]
        · intro i _ e es hed helt hex _
          have hLn : (l).length ≤ 100 := by first | omega | (simp; omega)
          have hw := wrap_nat helt (by omega)
          obtain ⟨v1, v2, v3, v4, r, v5, v6⟩ := hF.ev i e hex
          have hee : (⟨e.station, e.txn, e.conn, e.seq, e.kind, e.time, e.token, e.offline, e.reason, [r]⟩ : EvD) = e := by rw [← v5]
          have w1 : (evS e != 0) = false := by simp [v1]
          have w2 : (e.seq != (i : Int)) = false := by simp [v2]
          have w3 : decide (e.txn = t.id) = true := by simp [v3, hc.idq]
          have w4 : decide (e.station = c.begin_.station) = true := by simp [v4]
          have w6 : (r.time != e.time) = false := by simp [v6]
          have w7 := hF.start i e hex
          have w8 := hF.fin i e hex
          have w9 : IntKind.i64.wrap ((((l).length : Nat) : Int) - 1) = (((l).length - 1 : Nat) : Int) := by rw [IntKind.wrap_i64]; omega
          have w10 : (((1 : Nat) : Int) != 1) = false := rfl
          generalize hLL : l = L at *
          cases i with
          | zero =>
            have g0 : decide (((0 : Nat) : Int) > 0) = false := rfl
            have hI : ((0 : Nat) : Int) < (L.length : Int) := by omega
            simp +contextual only [go_sem, ↓reduceIte, Nat.reduceEqDiff, Nat.reduceAdd, Nat.reduceLeDiff, Nat.reduceLT, reduceCtorEq, k7, lt_dec helt, hI, hex, hw, h15, hee, w1, w2, w3, w4, v5, w6, w7, w8, w9, w10, g0, hbb, Bool.true_and, Bool.false_and, Bool.not_true, List.length_map, List.getElem?_map, Option.map_some, Int.natCast_nonneg, Int.toNat_natCast, Nat.zero_add, List.map_cons, List.map_nil, List.length_cons, List.length_nil, List.getElem?_cons_zero, Int.le_refl, Int.toNat_zero]
            refine ⟨rfl, rfl, (), trivial, .back rfl ?_⟩
            simp +contextual only [go_sem, ↓reduceIte, Nat.reduceEqDiff, Nat.reduceAdd, Nat.reduceLeDiff, Nat.reduceLT, reduceCtorEq, hw, low_evs]
          | succ i =>
            have g1 : decide (((i + 1 : Nat) : Int) > 0) = true := by simp only [decide_eq_true_eq]; omega
            have hI : ((i + 1 : Nat) : Int) < (L.length : Int) := by omega
            have hI2 : ((i : Nat) : Int) < (L.length : Int) := by omega
            have hw1 : IntKind.i64.wrap (((i + 1 : Nat) : Int) - 1) = ((i : Nat) : Int) := by rw [IntKind.wrap_i64]; omega
            obtain ⟨p, hp⟩ : ∃ p, L[i]? = some p := ⟨L[i]'(by omega), by simp⟩
            have ht : decide (e.time < p.time) = false := by have := hF.tim i p e hp hex; simp; omega
            simp +contextual only [go_sem, ↓reduceIte, Nat.reduceEqDiff, Nat.reduceAdd, Nat.reduceLeDiff, Nat.reduceLT, reduceCtorEq, k7, lt_dec helt, hI, hI2, hex, hw, hw1, hp, ht, h15, hee, w1, w2, w3, w4, v5, w6, w7, w8, w9, w10, g1, hbb, Bool.true_and, Bool.false_and, Bool.not_true, List.length_map, List.getElem?_map, Option.map_some, Int.natCast_nonneg, Int.toNat_natCast, Nat.zero_add, List.map_cons, List.map_nil, List.length_cons, List.length_nil, List.getElem?_cons_zero, Int.le_refl, Int.toNat_zero]
            refine ⟨rfl, rfl, (), trivial, .back rfl ?_⟩
            simp +contextual only [go_sem, ↓reduceIte, Nat.reduceEqDiff, Nat.reduceAdd, Nat.reduceLeDiff, Nat.reduceLT, reduceCtorEq, hw, low_evs]
    · rintro i ⟨t, l⟩ x xs hd hlt hx ⟨hc, hl⟩
      dsimp only at hc hl ⊢
      have hw := wrap_nat hlt (by omega)
      have q0 : (2 : Int) ≠ 0 := by decide
      obtain ⟨U, hU⟩ : ∃ U, updS t c.begin_.station x ((i : Int).tmod 2 == 1) = U := ⟨_, rfl⟩
      have hrd := upd_rds t c.begin_.station x ((i : Int).tmod 2 == 1)
      have hcs := upd_cases t c.begin_.station x ((i : Int).tmod 2 == 1)
      rw [hU] at hrd hcs
      have b1 : (l.length + 1) * 120 ≤ 68719476736 := by simp at hl; omega
      have b2 : l.length + 1 ≤ 4294967296 := by simp at hl; omega
      by_cases hu : U.2.2 = 0
      · have hc2 := cour_upd (off := ((i : Int).tmod 2 == 1)) hc (by rw [hU]; exact hu)
        rw [hU] at hc2
        have u1 : (U.2.2 != 0) = false := by simp [hu]
        have u2 : (U.2.2 == 0) = true := by simp [hu]
        simp +contextual only [go_sem, ↓reduceIte, Nat.reduceEqDiff, Nat.reduceAdd, Nat.reduceLeDiff, Nat.reduceLT, reduceCtorEq, k7, lt_dec hlt, hx, hw, q0, hU, u1, u2, b1, b2, ne_eq, not_false_eq_true, h16, List.length_map, List.getElem?_map, Option.map_some, Int.natCast_nonneg, Int.toNat_natCast, Nat.zero_add, List.drop_zero, true_and, and_true, okE]
        refine ⟨rfl, (U.1, l ++ [U.2.1]), ⟨hc2, by simp at hl ⊢; omega⟩, .ren [some 0, some 1, some 26] rfl rfl 0 ?_⟩
        simp +contextual only [go_sem, ↓reduceIte, Nat.reduceEqDiff, Nat.reduceAdd, Nat.reduceLeDiff, Nat.reduceLT, reduceCtorEq, List.map_append, List.map_cons, List.map_nil, List.length_append, List.length_cons, List.length_nil, List.all_append, low_evs, Nat.zero_add]
      · obtain ⟨_, hu1, hu2⟩ := hcs.resolve_right (fun h => hu (by rw [h.1]))
        have u1 : (U.2.2 != 0) = true := by simp [hu]
        have u2 : (U.2.2 == 0) = false := by simp [hu]
        simp +contextual only [go_sem, ↓reduceIte, Nat.reduceEqDiff, Nat.reduceAdd, Nat.reduceLeDiff, Nat.reduceLT, reduceCtorEq, k7, lt_dec hlt, hx, hw, q0, hU, u1, u2, hu1, hu2, zE, ne_eq, not_false_eq_true, h16, h14, sameE_self, List.length_nil, List.length_map, List.getElem?_map, Option.map_some, Int.natCast_nonneg, Int.toNat_natCast, beq_self_eq_true, decide_true, Bool.and_self, Bool.not_true, bne_self_eq_false, Bool.or_false]
        refine ⟨rfl, (t, l), ⟨hc, by simp at hl ⊢; omega⟩, .back rfl ?_⟩
        simp +contextual only [go_sem, ↓reduceIte, Nat.reduceEqDiff, Nat.reduceAdd, Nat.reduceLeDiff, Nat.reduceLT, reduceCtorEq, low_evs]
  · have h0' : (B.2.2 != 0) = true := by simp [h0]
    simp +contextual only [go_sem, ↓reduceIte, Nat.reduceEqDiff, Nat.reduceAdd, Nat.reduceLeDiff, Nat.reduceLT, reduceCtorEq, c7, k7, h9, h12, hB, h0', List.length_map]
end Go.Proofs.YtfinfdbbndcomaaDoor
