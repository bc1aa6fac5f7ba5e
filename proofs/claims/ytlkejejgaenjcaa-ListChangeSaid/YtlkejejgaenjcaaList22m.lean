/- Diff by the reference. -/
import Derived.Test.YtlkejejgaenjcaaList22l
namespace Go.Proofs.Ytlkejejgaenjcaa
set_option linter.all false
open Go.Idl
set_option maxHeartbeats 4000000
set_option maxRecDepth 100000
attribute [local go_sem] eqTok agTok agLst Try.underlying3 Try.underlying5 Try.underlying9 Try.underlying4
theorem find_at {a : List TokD} (ha : DisK a) {k : ByteArray} : (idxK a k 0 = -1 ∧ (a.find? fun t => decide (k = kT t)) = none) ∨ ∃ (j : Nat) (y : TokD), idxK a k 0 = (j : Int) ∧ a[j]? = some y ∧ (a.find? fun t => decide (k = kT t)) = some y := by
  rcases idxK_find k a 0 with ⟨h1, h2⟩ | ⟨j, _, h2, t, h3, h4⟩
  · left
    refine ⟨h1, ?_⟩
    rw [List.find?_eq_none]
    intro t ht
    simpa using fun e => h2 t ht e.symm
  · right
    rw [Nat.sub_zero] at h3
    refine ⟨j, t, h2, h3, ?_⟩
    cases hf : a.find? fun t => decide (k = kT t) with
    | none =>
      rw [List.find?_eq_none] at hf
      exact absurd (decide_eq_true h4.symm) (hf t (List.mem_of_getElem? h3))
    | some y =>
      have hy := List.mem_of_find?_eq_some hf
      have hk : k = kT y := by simpa using List.find?_some hf
      congr 1
      obtain ⟨i, hi, rfl⟩ := List.getElem_of_mem hy
      obtain ⟨hj, rfl⟩ := List.getElem?_eq_some_iff.1 h3
      unfold DisK at ha
      rw [List.pairwise_iff_getElem] at ha
      rcases Nat.lt_trichotomy i j with h | h | h
      · exact absurd (hk.symm.trans h4.symm) (ha i j hi hj h)
      · subst h; rfl
      · exact absurd (h4.trans hk) (ha j i hj hi h)
theorem con20 {Φ : Specs} (hg : Idl.Good Try.prog Φ) (h13 : Φ 13 = some SVal) (h29 : Φ 29 = some SKey)
    (h33 : Φ 33 = some SFnd) (h34 : Φ 34 = some SIns) : Contract Try.prog 20 SDif := by
  refine conT hg k20 ic20 (by decide) fun C t r h => ?_
  obtain ⟨a, b, u⟩ := t
  dsimp only at h
  split at h
  · rename_i hl
    obtain ⟨hla, hlb⟩ := hl
    cases h
    unfold diffS
    cases e1 : validL a == 0 with
    | false =>
      have e1' : (validL a != 0) = true := by simpa using e1
      simp +contextual only [go_sem, ↓reduceIte, Nat.reduceEqDiff, Nat.reduceAdd, Nat.reduceLeDiff, Nat.reduceLT, reduceCtorEq, c20, k20, h13, hla, e1', Bool.not_false, cond_true]
    | true =>
      have e1' : (validL a != 0) = false := by simpa using e1
      have wa := (valid_iff a).1 (by simpa using e1)
      have da := dis_of wa
      cases e2 : validL b == 0 with
      | false =>
        have e2' : (validL b != 0) = true := by simpa using e2
        simp +contextual only [go_sem, ↓reduceIte, Nat.reduceEqDiff, Nat.reduceAdd, Nat.reduceLeDiff, Nat.reduceLT, reduceCtorEq, c20, k20, h13, hla, hlb, e1', e2', Bool.not_false, Bool.not_true, cond_true, cond_false]
      | true =>
        have e2' : (validL b != 0) = false := by simpa using e2
        have wb := (valid_iff b).1 (by simpa using e2)
        have db := dis_of wb
        have ma := wa.max
        have mb := wb.max
        have oa := okIds_of wa.ok
        have ob := okIds_of wb.ok
        cases e3 : decide (b.version ≤ a.version) with
        | true =>
          simp +contextual only [go_sem, ↓reduceIte, Nat.reduceEqDiff, Nat.reduceAdd, Nat.reduceLeDiff, Nat.reduceLT, reduceCtorEq, c20, k20, h13, hla, hlb, e1', e2', e3, Bool.not_true, cond_true, cond_false]
        | false =>
          simp +contextual only [go_sem, ↓reduceIte, Nat.reduceEqDiff, Nat.reduceAdd, Nat.reduceLeDiff, Nat.reduceLT, reduceCtorEq, c20, k20, h13, hla, hlb, e1', e2', e3, List.length_map, Option.map_none, Bool.not_true, cond_true, cond_false]
          refine TriI.loopL hg k20 b.tokens (fun i (acc : List TokD) => ⟨slotsL [(2, .ref 0 0 0), (3, .ref 1 0 0), (4, .sc (.slice none 0 0)), (5, .sc (.int .i64 0)), (8, .slice 6 (acc.map Cod.enc)), (9, .sc (.int .i64 i))],
              objsL [.live 2 [Cod.enc a] true, .live 2 [Cod.enc b] true], 2⟩)
            (fun xs acc => ∃ p, b.tokens = p ++ xs ∧ acc = srtT (p.filter (chT a.tokens)) ∧ okIds acc = true ∧ acc.length + xs.length ≤ 128) [] ((LeF.nilsl 8 6 rfl).trans (.back rfl ?_)) ⟨[], rfl, rfl, rfl, by simpa using mb⟩ ?_ ?_
          · simp +contextual only [go_sem, ↓reduceIte, Nat.reduceEqDiff, Nat.reduceAdd, Nat.reduceLeDiff, Nat.reduceLT, reduceCtorEq, List.length_map, List.map_nil]
            rfl
          · intro acc hinv
            obtain ⟨p, k1, k2, k3, k4⟩ := hinv
            have hp : p = b.tokens := by rw [k1]; simp
            subst hp
            rw [List.length_nil, Nat.add_zero] at k4
            simp +contextual only [go_sem, ↓reduceIte, Nat.reduceEqDiff, Nat.reduceAdd, Nat.reduceLeDiff, Nat.reduceLT, reduceCtorEq, k20, Int.lt_irrefl, decide_false, List.length_map]
            refine TriI.loopL hg k20 a.tokens (fun i (acc : List TokD) => ⟨slotsL [(2, .ref 0 0 0), (3, .ref 1 0 0), (4, .sc (.slice none 0 0)), (5, .sc (.int .i64 0)), (8, .slice 6 (acc.map Cod.enc)), (11, .sc (.int .i64 i))],
                objsL [.live 2 [Cod.enc a] true, .live 2 [Cod.enc b] true], 2⟩)
              (fun xs acc => ∃ p, a.tokens = p ++ xs ∧ acc = srtT (b.tokens.filter (chT a.tokens) ++ (restT b.tokens p).map remT) ∧ okIds acc = true ∧ acc.length + xs.length ≤ 256) acc (.back rfl ?_) ⟨[], rfl, by rw [k2]; simp [restT], k3, by omega⟩ ?_ ?_
            · simp +contextual only [go_sem, ↓reduceIte, Nat.reduceEqDiff, Nat.reduceAdd, Nat.reduceLeDiff, Nat.reduceLT, reduceCtorEq, List.length_map, low_toks]
              rfl
            · intro acc hinv2
              obtain ⟨p, j1, j2, j3, j4⟩ := hinv2
              have hp : p = a.tokens := by rw [j1]; simp
              subst hp
              simp +contextual only [go_sem, ↓reduceIte, Nat.reduceEqDiff, Nat.reduceAdd, Nat.reduceLeDiff, Nat.reduceLT, reduceCtorEq, k20, Int.lt_irrefl, decide_false, List.length_map]
              rw [j2]
              rfl
            · intro i acc x xs hdr hlt hx hinv2
              obtain ⟨p, j1, j2, j3, j4⟩ := hinv2
              have hw := wrap_nat hlt (by omega)
              rw [List.length_cons] at j4
              have hbl : acc.length ≤ 10000 := by omega
              have hxs := okIds_mem oa (List.mem_of_getElem? hx)
              have hdk : decide (idxK b.tokens (keyB x.id) 0 < 0) = keptT b.tokens x := idxK_lt b.tokens (kT x)
              cases hh : keptT b.tokens x with
              | true =>
                rw [hh] at hdk
                have hri : (V.agg [.sc (.string x.id), .sc (.string ⟨#[]⟩), .sc (.string ⟨#[]⟩), .sc (.int .i64 0), .sc (.int .i64 0), .sc (.int .i64 0)]) = Cod.enc (remT x) := rfl
                simp +contextual only [go_sem, ↓reduceIte, Nat.reduceEqDiff, Nat.reduceAdd, Nat.reduceLeDiff, Nat.reduceLT, reduceCtorEq, k20, lt_dec hlt, hx, hw, hxs, hbl, hlb, ob, j3, hdk, and_self, h29, h33, h34, List.length_map, List.getElem?_map, Option.map_some, Int.natCast_nonneg, Int.toNat_natCast]
                refine ⟨rfl, insK acc (remT x), ⟨p ++ [x], by rw [j1]; simp, ?_, ok_ins j3 hxs, ?_⟩, .back rfl ?_⟩
                · rw [restT, List.filter_append, List.filter_cons_of_pos hh, List.filter_nil, List.map_append, ← List.append_assoc, List.map_cons, List.map_nil, srt_app, j2]; rfl
                · have := len_ins acc (remT x)
                  omega
                · simp +contextual only [go_sem, ↓reduceIte, Nat.reduceEqDiff, Nat.reduceAdd, Nat.reduceLeDiff, Nat.reduceLT, reduceCtorEq, low_toks]
                  rfl
              | false =>
                rw [hh] at hdk
                simp +contextual only [go_sem, ↓reduceIte, Nat.reduceEqDiff, Nat.reduceAdd, Nat.reduceLeDiff, Nat.reduceLT, reduceCtorEq, k20, lt_dec hlt, hx, hw, hxs, hbl, hlb, ob, j3, hdk, and_self, h29, h33, h34, List.length_map, List.getElem?_map, Option.map_some, Int.natCast_nonneg, Int.toNat_natCast]
                refine ⟨rfl, acc, ⟨p ++ [x], by rw [j1]; simp, ?_, j3, by omega⟩, .back rfl ?_⟩
                · rw [restT, List.filter_append, List.filter_cons_of_neg (by rw [hh]; decide), List.filter_nil, List.append_nil, j2]; rfl
                · simp +contextual only [go_sem, ↓reduceIte, Nat.reduceEqDiff, Nat.reduceAdd, Nat.reduceLeDiff, Nat.reduceLT, reduceCtorEq, low_toks]
          · intro i acc x xs hdr hlt hx hinv
            obtain ⟨p, k1, k2, k3, k4⟩ := hinv
            have hw := wrap_nat hlt (by omega)
            rw [List.length_cons] at k4
            have hbl : acc.length ≤ 10000 := by omega
            have hxs := okIds_mem ob (List.mem_of_getElem? hx)
            have app : hasT a.tokens x = false → insK acc x = srtT ((p ++ [x]).filter (chT a.tokens)) := fun hh => by
              rw [List.filter_append, List.filter_cons_of_pos (by simp [chT, hh]), List.filter_nil, srt_app, ← k2]
            have app2 := len_ins acc x
            rcases find_at da (k := kT x) with ⟨q1, q2⟩ | ⟨j, y, q1, q2, q3⟩
            · have he : hasT a.tokens x = false := by
                rcases find_same da (x := x) with ⟨y, hy, _⟩ | ⟨_, he⟩
                · rw [q2] at hy; cases hy
                · exact he
              have q1' : idxK a.tokens (keyB x.id) 0 = -1 := q1
              have hneg : decide ((-1 : Int) < 0) = true := rfl
              simp +contextual only [go_sem, ↓reduceIte, Nat.reduceEqDiff, Nat.reduceAdd, Nat.reduceLeDiff, Nat.reduceLT, reduceCtorEq, k20, lt_dec hlt, hx, hw, hxs, hbl, hla, oa, k3, q1', hneg, and_self, h29, h33, h34, List.length_map, List.getElem?_map, Option.map_some, Int.natCast_nonneg, Int.toNat_natCast]
              refine ⟨rfl, rfl, insK acc x, ⟨p ++ [x], by rw [k1]; simp, app he, ok_ins k3 hxs, by omega⟩, .back rfl ?_⟩
              simp +contextual only [go_sem, ↓reduceIte, Nat.reduceEqDiff, Nat.reduceAdd, Nat.reduceLeDiff, Nat.reduceLT, reduceCtorEq, low_toks]
            · have he : eqT y x = hasT a.tokens x := by
                rcases find_same da (x := x) with ⟨z, hz, he⟩ | ⟨hz, _⟩
                · rw [q3] at hz; cases hz; exact he
                · rw [q3] at hz; cases hz
              have q1' : idxK a.tokens (keyB x.id) 0 = (j : Int) := q1
              have hjl : j < a.tokens.length := (List.getElem?_eq_some_iff.1 q2).1
              have hneg : decide ((j : Int) < 0) = false := by simp
              have hjI : (j : Int) < (a.tokens.length : Int) := by omega
              have hiI : (i : Int) < (b.tokens.length : Int) := by omega
              simp +contextual only [go_sem, ↓reduceIte, Nat.reduceEqDiff, Nat.reduceAdd, Nat.reduceLeDiff, Nat.reduceLT, reduceCtorEq, k20, lt_dec hlt, hx, hw, hxs, hbl, hla, oa, k3, q1', q2, hjl, hneg, hjI, hiI, and_self, h29, h33, h34, List.length_map, List.getElem?_map, Option.map_some, Int.natCast_nonneg, Int.toNat_natCast]
              refine ⟨rfl, rfl, fun h => ⟨insK acc x, ⟨p ++ [x], by rw [k1]; simp, app ?_, ok_ins k3 hxs, by omega⟩, .back rfl ?_⟩, fun h => ⟨acc, ⟨p ++ [x], by rw [k1]; simp, ?_, k3, by omega⟩, .back rfl ?_⟩⟩
              · have h' : (!eqT y x) = true := h
                rw [he] at h'
                simpa using h'
              · simp +contextual only [go_sem, ↓reduceIte, Nat.reduceEqDiff, Nat.reduceAdd, Nat.reduceLeDiff, Nat.reduceLT, reduceCtorEq, low_toks]
              · have h' : (!eqT y x) = false := h
                rw [he] at h'
                have h3 : hasT a.tokens x = true := by simpa using h'
                rw [List.filter_append, List.filter_cons_of_neg (by simp [chT, h3]), List.filter_nil, List.append_nil, ← k2]
              · simp +contextual only [go_sem, ↓reduceIte, Nat.reduceEqDiff, Nat.reduceAdd, Nat.reduceLeDiff, Nat.reduceLT, reduceCtorEq, low_toks]
  · cases h
end Go.Proofs.Ytlkejejgaenjcaa
