/- Change by the reference. -/
import Derived.Test.YtlkejejgaenjcaaList22i
namespace Go.Proofs.Ytlkejejgaenjcaa
set_option linter.all false
open Go.Idl
set_option maxHeartbeats 4000000
set_option maxRecDepth 100000
attribute [local go_sem] eqTok agTok agLst Try.underlying3 Try.underlying5 Try.underlying9 Try.underlying4
theorem srt_app (a : List TokD) (x : TokD) : srtT (a ++ [x]) = insK (srtT a) x := by rw [srtT, List.foldl_append]; rfl
theorem okIds_app {a : List TokD} {x : TokD} (h : okIds a = true) (hx : x.id.size ≤ 1000000) : okIds (a ++ [x]) = true := by
  rw [okIds, List.all_append, show (a.all fun t => decide (t.id.size ≤ 1000000)) = true from h]
  simpa using hx
theorem con18 {Φ : Specs} (hg : Idl.Good Try.prog Φ) (h13 : Φ 13 = some SVal) (h36 : Φ 36 = some SItm) (h29 : Φ 29 = some SKey)
    (h27 : Φ 27 = some SNum) (h33 : Φ 33 = some SFnd) (h34 : Φ 34 = some SIns) : Contract Try.prog 18 SChg := by
  refine conT hg k18 ic18 (by decide) fun C t r h => ?_
  obtain ⟨l, base, v, ts, u⟩ := t
  dsimp only at h
  split at h
  · rename_i hl
    obtain ⟨hl, hts⟩ := hl
    cases h
    unfold changeS
    cases e1 : validL l == 0 with
    | false =>
      have e1' : (validL l != 0) = true := by simpa using e1
      simp +contextual only [go_sem, ↓reduceIte, Nat.reduceEqDiff, Nat.reduceAdd, Nat.reduceLeDiff, Nat.reduceLT, reduceCtorEq, c18, k18, h13, hl, e1', Bool.not_false, cond_true]
    | true =>
      have e1' : (validL l != 0) = false := by simpa using e1
      have hw0 := (valid_iff l).1 (by simpa using e1)
      have hmx := hw0.max
      have hol := okIds_of hw0.ok
      have hn : (decide (v < 1) || decide (v > 2147483647)) = !(decide (v ≥ 1) && decide (v ≤ 2147483647)) := by
        rw [Bool.eq_iff_iff]; simp; first | done | omega
      rw [hn]
      cases e2 : decide (v ≥ 1) && decide (v ≤ 2147483647) with
      | false =>
        simp +contextual only [go_sem, ↓reduceIte, Nat.reduceEqDiff, Nat.reduceAdd, Nat.reduceLeDiff, Nat.reduceLT, reduceCtorEq, c18, k18, h13, h27, hl, e1', e2, Bool.not_true, Bool.not_false, cond_true, cond_false]
      | true =>
        cases e3 : (base != l.version) || decide (v ≤ base) with
        | true =>
          simp +contextual only [go_sem, ↓reduceIte, Nat.reduceEqDiff, Nat.reduceAdd, Nat.reduceLeDiff, Nat.reduceLT, reduceCtorEq, c18, k18, h13, h27, hl, e1', e2, e3, Bool.not_true, cond_true, cond_false]
        | false =>
          cases e4 : decide ((ts.length : Int) > 128) with
          | true =>
            simp +contextual only [go_sem, ↓reduceIte, Nat.reduceEqDiff, Nat.reduceAdd, Nat.reduceLeDiff, Nat.reduceLT, reduceCtorEq, c18, k18, h13, h27, hl, e1', e2, e3, e4, List.length_map, Bool.not_true, cond_true, cond_false]
          | false =>
            have e4' : ts.length ≤ 128 := by simp at e4; omega
            simp +contextual only [go_sem, ↓reduceIte, Nat.reduceEqDiff, Nat.reduceAdd, Nat.reduceLeDiff, Nat.reduceLT, reduceCtorEq, c18, k18, h13, h27, hl, e1', e2, e3, e4, List.length_map, Option.map_none, Bool.not_true, cond_true, cond_false]
            refine TriI.loopL hg k18 ts (fun i (_ : Unit) => ⟨slotsL [(2, .sc (.int .i64 v)), (3, Cod.enc ts), (4, .ref 0 0 0), (8, .ref 1 0 0), (9, .sc (.int .i64 0)), (11, .sc (.int .i64 i))],
                objsL [.live 2 [Cod.enc l] true, .live 2 [.agg [.sc (.int .i64 0), .sc (.slice none 0 0)]] true], 2⟩)
              (fun xs _ => ∃ a, ts = a ++ xs ∧ cTok l.tokens a xs = cTok l.tokens [] ts ∧ okIds a = true) () (.back rfl ?_) ⟨[], rfl, rfl, rfl⟩ ?_ ?_
            · simp +contextual only [go_sem, ↓reduceIte, Nat.reduceEqDiff, Nat.reduceAdd, Nat.reduceLeDiff, Nat.reduceLT, reduceCtorEq, List.length_map]
              rfl
            · intro _ hinv
              obtain ⟨a, g1, g2, g3⟩ := hinv
              have ha : a = ts := by rw [g1]; simp
              subst ha
              have g0 : cTok l.tokens [] a = 0 := by rw [← g2]; cases a <;> rfl
              obtain ⟨q1, q2⟩ := (cTok_iff l.tokens a [] .nil).1 g0
              have q2' : DisK a := by simpa using q2
              rw [g0]
              simp +contextual only [go_sem, ↓reduceIte, Nat.reduceEqDiff, Nat.reduceAdd, Nat.reduceLeDiff, Nat.reduceLT, reduceCtorEq, k18, Int.lt_irrefl, decide_false, List.length_map]
              refine TriI.loopL hg k18 l.tokens (fun i (b : List TokD) => ⟨slotsL [(2, .sc (.int .i64 v)), (3, Cod.enc a), (4, .ref 0 0 0), (8, .ref 1 0 0), (9, .sc (.int .i64 0)), (14, .slice 6 (b.map Cod.enc)), (15, .sc (.int .i64 i))],
                  objsL [.live 2 [Cod.enc l] true, .live 2 [.agg [.sc (.int .i64 0), .sc (.slice none 0 0)]] true], 2⟩)
                (fun xs b => ∃ p, l.tokens = p ++ xs ∧ b = srtT (p.filter (keptT a)) ∧ okIds b = true ∧ b.length + xs.length ≤ 128) [] ((LeF.nilsl 14 6 rfl).trans (.back rfl ?_)) ⟨[], rfl, rfl, rfl, by simpa using hmx⟩ ?_ ?_
              · simp +contextual only [go_sem, ↓reduceIte, Nat.reduceEqDiff, Nat.reduceAdd, Nat.reduceLeDiff, Nat.reduceLT, reduceCtorEq, List.length_map, List.map_nil]
                rfl
              · intro b hinv2
                obtain ⟨p, k1, k2, k3, k4⟩ := hinv2
                have hp : p = l.tokens := by rw [k1]; simp
                subst hp
                rw [List.length_nil, Nat.add_zero] at k4
                simp +contextual only [go_sem, ↓reduceIte, Nat.reduceEqDiff, Nat.reduceAdd, Nat.reduceLeDiff, Nat.reduceLT, reduceCtorEq, k18, Int.lt_irrefl, decide_false, List.length_map]
                refine TriI.loopL hg k18 a (fun i (b : List TokD) => ⟨slotsL [(2, .sc (.int .i64 v)), (3, Cod.enc a), (4, .ref 0 0 0), (8, .ref 1 0 0), (9, .sc (.int .i64 0)), (14, .slice 6 (b.map Cod.enc)), (16, .sc (.int .i64 i))],
                    objsL [.live 2 [Cod.enc l] true, .live 2 [.agg [.sc (.int .i64 0), .sc (.slice none 0 0)]] true], 2⟩)
                  (fun xs b => ∃ p, a = p ++ xs ∧ b = srtT (l.tokens.filter (keptT a) ++ p.filter putT) ∧ okIds b = true ∧ b.length + xs.length ≤ 256) b (.back rfl ?_) ⟨[], rfl, by rw [k2]; simp, k3, by omega⟩ ?_ ?_
                · simp +contextual only [go_sem, ↓reduceIte, Nat.reduceEqDiff, Nat.reduceAdd, Nat.reduceLeDiff, Nat.reduceLT, reduceCtorEq, List.length_map, low_toks]
                  rfl
                · intro b hinv3
                  obtain ⟨p, j1, j2, j3, j4⟩ := hinv3
                  have hp : p = a := by rw [j1]; simp
                  subst hp
                  have hbn : b = srtT (newT l.tokens p) := j2
                  have hbl : (newT l.tokens p).length = b.length := by rw [hbn, (sort_perm (new_dis (dis_of hw0) q2')).length_eq]
                  rw [hbl, ← hbn]
                  cases e6 : decide ((b.length : Int) > 128) with
                  | true =>
                    simp +contextual only [go_sem, ↓reduceIte, Nat.reduceEqDiff, Nat.reduceAdd, Nat.reduceLeDiff, Nat.reduceLT, reduceCtorEq, k18, Int.lt_irrefl, decide_false, e6, List.length_map, cond_true]
                    rfl
                  | false =>
                    simp +contextual only [go_sem, ↓reduceIte, Nat.reduceEqDiff, Nat.reduceAdd, Nat.reduceLeDiff, Nat.reduceLT, reduceCtorEq, k18, Int.lt_irrefl, decide_false, e6, List.length_map, cond_false]
                · intro i b x xs hdr hlt hx hinv3
                  obtain ⟨p, j1, j2, j3, j4⟩ := hinv3
                  have hw := wrap_nat hlt (by omega)
                  rw [List.length_cons] at j4
                  have hbl : b.length ≤ 10000 := by omega
                  have hxs := okIds_mem g3 (List.mem_of_getElem? hx)
                  simp +contextual only [go_sem, ↓reduceIte, Nat.reduceEqDiff, Nat.reduceAdd, Nat.reduceLeDiff, Nat.reduceLT, reduceCtorEq, k18, lt_dec hlt, hx, hw, hxs, hbl, j3, and_self, h34, List.length_map, List.getElem?_map, Option.map_some, Int.natCast_nonneg, Int.toNat_natCast]
                  refine ⟨fun h => ⟨insK b x, ⟨p ++ [x], by rw [j1]; simp, ?_, ok_ins j3 hxs, ?_⟩, .back rfl ?_⟩, fun h => ⟨b, ⟨p ++ [x], by rw [j1]; simp, ?_, j3, by omega⟩, .back rfl ?_⟩⟩
                  · rw [List.filter_append, List.filter_cons_of_pos (show putT x = true from h), List.filter_nil, ← List.append_assoc, srt_app, ← j2]
                  · have := len_ins b x
                    omega
                  · simp +contextual only [go_sem, ↓reduceIte, Nat.reduceEqDiff, Nat.reduceAdd, Nat.reduceLeDiff, Nat.reduceLT, reduceCtorEq, low_toks]
                  · rw [List.filter_append, List.filter_cons_of_neg (by rw [show putT x = false from h]; decide), List.filter_nil, List.append_nil, ← j2]
                  · simp +contextual only [go_sem, ↓reduceIte, Nat.reduceEqDiff, Nat.reduceAdd, Nat.reduceLeDiff, Nat.reduceLT, reduceCtorEq, low_toks]
              · intro i b x xs hdr hlt hx hinv2
                obtain ⟨p, k1, k2, k3, k4⟩ := hinv2
                have hw := wrap_nat hlt (by omega)
                rw [List.length_cons] at k4
                have hbl : b.length ≤ 10000 := by omega
                have hal : a.length ≤ 1000000 := by omega
                have hxs := okIds_mem hol (List.mem_of_getElem? hx)
                have hdk : decide (idxK a (keyB x.id) 0 < 0) = keptT a x := idxK_lt a (kT x)
                cases hh : keptT a x with
                | true =>
                  rw [hh] at hdk
                  simp +contextual only [go_sem, ↓reduceIte, Nat.reduceEqDiff, Nat.reduceAdd, Nat.reduceLeDiff, Nat.reduceLT, reduceCtorEq, k18, lt_dec hlt, hx, hw, hxs, hbl, hal, g3, k3, hdk, and_self, h29, h33, h34, List.length_map, List.getElem?_map, Option.map_some, Int.natCast_nonneg, Int.toNat_natCast]
                  refine ⟨insK b x, ⟨p ++ [x], by rw [k1]; simp, ?_, ok_ins k3 hxs, ?_⟩, .back rfl ?_⟩
                  · rw [List.filter_append, List.filter_cons_of_pos hh, List.filter_nil, srt_app, ← k2]
                  · have := len_ins b x
                    omega
                  · simp +contextual only [go_sem, ↓reduceIte, Nat.reduceEqDiff, Nat.reduceAdd, Nat.reduceLeDiff, Nat.reduceLT, reduceCtorEq, low_toks]
                | false =>
                  rw [hh] at hdk
                  simp +contextual only [go_sem, ↓reduceIte, Nat.reduceEqDiff, Nat.reduceAdd, Nat.reduceLeDiff, Nat.reduceLT, reduceCtorEq, k18, lt_dec hlt, hx, hw, hxs, hbl, hal, g3, k3, hdk, and_self, h29, h33, h34, List.length_map, List.getElem?_map, Option.map_some, Int.natCast_nonneg, Int.toNat_natCast]
                  refine ⟨b, ⟨p ++ [x], by rw [k1]; simp, ?_, k3, by omega⟩, .back rfl ?_⟩
                  · rw [List.filter_append, List.filter_cons_of_neg (by rw [hh]; decide), List.filter_nil, List.append_nil, ← k2]
                  · simp +contextual only [go_sem, ↓reduceIte, Nat.reduceEqDiff, Nat.reduceAdd, Nat.reduceLeDiff, Nat.reduceLT, reduceCtorEq, low_toks]
            · intro i _ x xs hdr hlt hx hinv
              obtain ⟨a, g1, g2, g3⟩ := hinv
              have hw := wrap_nat hlt (by omega)
              have hi := drop_pre hdr g1
              have hta : ts.take i = a := by rw [g1, hi, List.take_left]
              have hmt : (ts.map Cod.enc).take i = (a.map Cod.enc : List V) := by rw [← List.map_take, hta]
              rw [cTok] at g2
              cases h4 : itemS x == 0 with
              | false =>
                have h4' : (itemS x != 0) = true := by simpa using h4
                rw [h4, Bool.not_false, cond_true] at g2
                simp +contextual only [go_sem, ↓reduceIte, Nat.reduceEqDiff, Nat.reduceAdd, Nat.reduceLeDiff, Nat.reduceLT, reduceCtorEq, k18, lt_dec hlt, hx, hw, h36, h4', List.length_map, List.getElem?_map, Option.map_some, Int.natCast_nonneg, Int.toNat_natCast]
                have hne : (cTok l.tokens [] ts == 0) = false := by rw [← g2]; exact h4
                rw [hne, Bool.not_false, cond_true, g2]
              | true =>
                have h4' : (itemS x != 0) = false := by simpa using h4
                have h5 : itemS x = 0 := by simpa using h4
                have hxs := item_size h5
                rw [h4, Bool.not_true, cond_false] at g2
                have hal : a.length ≤ 1000000 := by
                  have := congrArg List.length g1
                  rw [List.length_append] at this
                  omega
                have hdk : decide (idxK a (keyB x.id) 0 ≥ 0) = hasK a (kT x) := idxK_ge a (kT x)
                have hdo : decide (idxK l.tokens (keyB x.id) 0 < 0) = !hasK l.tokens (kT x) := idxK_lt l.tokens (kT x)
                cases hh : hasK a (kT x) with
                | true =>
                  rw [hh, cond_true] at g2
                  rw [hh] at hdk
                  simp +contextual only [go_sem, ↓reduceIte, Nat.reduceEqDiff, Nat.reduceAdd, Nat.reduceLeDiff, Nat.reduceLT, reduceCtorEq, k18, lt_dec hlt, hx, hw, h36, h29, h33, h4', hxs, hdk, hmt, hal, g3, Nat.le_of_lt hlt, Nat.zero_le, List.drop_zero, Option.map_none, and_self, List.length_map, List.getElem?_map, Option.map_some, Int.natCast_nonneg, Int.toNat_natCast]
                  rw [← g2]
                  rfl
                | false =>
                  rw [hh, cond_false] at g2
                  rw [hh] at hdk
                  cases hst : x.status == 0 with
                  | true =>
                    cases hso : hasK l.tokens (kT x) with
                    | true =>
                      rw [hso] at hdo
                      rw [hst, hso, Bool.not_true, Bool.and_false, cond_false] at g2
                      simp +contextual only [go_sem, ↓reduceIte, Nat.reduceEqDiff, Nat.reduceAdd, Nat.reduceLeDiff, Nat.reduceLT, reduceCtorEq, k18, lt_dec hlt, hx, hw, h36, h29, h33, h4', hxs, hdk, hdo, hst, hmt, hal, hl, hol, g3, Bool.not_true, Nat.le_of_lt hlt, Nat.zero_le, List.drop_zero, Option.map_none, and_self, List.length_map, List.getElem?_map, Option.map_some, Int.natCast_nonneg, Int.toNat_natCast]
                      refine ⟨(), ⟨a ++ [x], by rw [g1]; simp, g2, okIds_app g3 hxs⟩, .back rfl ?_⟩
                      simp +contextual only [go_sem, ↓reduceIte, Nat.reduceEqDiff, Nat.reduceAdd, Nat.reduceLeDiff, Nat.reduceLT, reduceCtorEq, low_toks]
                    | false =>
                      rw [hso] at hdo
                      rw [hst, hso, Bool.not_false, Bool.and_true, cond_true] at g2
                      simp +contextual only [go_sem, ↓reduceIte, Nat.reduceEqDiff, Nat.reduceAdd, Nat.reduceLeDiff, Nat.reduceLT, reduceCtorEq, k18, lt_dec hlt, hx, hw, h36, h29, h33, h4', hxs, hdk, hdo, hst, hmt, hal, hl, hol, g3, Bool.not_false, Nat.le_of_lt hlt, Nat.zero_le, List.drop_zero, Option.map_none, and_self, List.length_map, List.getElem?_map, Option.map_some, Int.natCast_nonneg, Int.toNat_natCast]
                      rw [← g2]
                      rfl
                  | false =>
                    rw [hst, Bool.false_and, cond_false] at g2
                    simp +contextual only [go_sem, ↓reduceIte, Nat.reduceEqDiff, Nat.reduceAdd, Nat.reduceLeDiff, Nat.reduceLT, reduceCtorEq, k18, lt_dec hlt, hx, hw, h36, h29, h33, h4', hxs, hdk, hst, hmt, hal, g3, Nat.le_of_lt hlt, Nat.zero_le, List.drop_zero, Option.map_none, and_self, List.length_map, List.getElem?_map, Option.map_some, Int.natCast_nonneg, Int.toNat_natCast]
                    refine ⟨(), ⟨a ++ [x], by rw [g1]; simp, g2, okIds_app g3 hxs⟩, .back rfl ?_⟩
                    simp +contextual only [go_sem, ↓reduceIte, Nat.reduceEqDiff, Nat.reduceAdd, Nat.reduceLeDiff, Nat.reduceLT, reduceCtorEq, low_toks]
  · cases h
end Go.Proofs.Ytlkejejgaenjcaa
