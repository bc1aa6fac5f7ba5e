/- Full: a list is replaced. -/
import Derived.Test.YtlkejejgaenjcaaList22f
namespace Go.Proofs.Ytlkejejgaenjcaa
set_option linter.all false
open Go.Idl
set_option maxHeartbeats 4000000
set_option maxRecDepth 100000
attribute [local go_sem] eqTok agTok agLst Try.underlying3 Try.underlying5 Try.underlying9 Try.underlying4
def seenK (a : List TokD) : List (ByteArray × Bool) := a.map fun t => (kT t, true)
theorem look_seen (a : List TokD) (k : ByteArray) : lookM (seenK a) k = if hasK a k = true then some true else none := by
  induction a with
  | nil => rfl
  | cons x a ih =>
    simp only [seenK, List.map_cons, lookM, List.find?_cons]
    by_cases h : k = kT x
    · subst h; simp [hasK]
    · have h' : ¬ kT x = k := fun e => h e.symm
      have hh : hasK (x :: a) k = hasK a k := by simp [hasK, h']
      rw [hh]
      simp only [h, decide_false]
      exact ih
theorem put_seen {a : List TokD} {t : TokD} (h : hasK a (kT t) = false) : putM (seenK a) (kT t) true = seenK (a ++ [t]) := by
  unfold putM
  have : fidx (seenK a) (kT t) = none := by
    rw [← lookM_none, look_seen, h]; rfl
  rw [this]
  simp [seenK]
theorem low_seen (n : Nat) (a : List TokD) : (valsM (seenK a)).all (V.low n) = true := by
  simp only [valsM, seenK, List.all_map, List.all_eq_true]
  intro x _
  rfl
def fTok : List TokD → List TokD → Int
  | _, [] => 0
  | a, t :: l => bif !(tokS t == 0) then tokS t else bif hasK a (kT t) then 9 else fTok (a ++ [t]) l
def fullS (l : TListD) (v : Int) (ts : List TokD) : TListD × Int :=
  bif !(validL l == 0) then (l, validL l) else bif decide (v < 1) || decide (v > 2147483647) then (l, 2) else bif decide (v ≤ l.version) then (l, 11) else
  bif decide ((ts.length : Int) > 128) then (l, 3) else bif !(fTok [] ts == 0) then (l, fTok [] ts) else (⟨v, srtT ts⟩, 0)
theorem fTok_iff : ∀ (l a : List TokD), DisK a → (fTok a l = 0 ↔ (∀ t, t ∈ l → tokS t = 0) ∧ DisK (a ++ l))
  | [], a, ha => by simp [fTok, ha]
  | t :: l, a, ha => by
    rw [fTok]
    cases h1 : tokS t == 0 with
    | false =>
      have h1' : tokS t ≠ 0 := by simpa using h1
      rw [Bool.not_false, cond_true]
      exact ⟨fun h => absurd h h1', fun h => absurd (h.1 t (by simp)) h1'⟩
    | true =>
      have h1' : tokS t = 0 := by simpa using h1
      rw [Bool.not_true, cond_false]
      cases h2 : hasK a (kT t) with
      | true =>
        rw [cond_true]
        refine ⟨fun h => absurd h (by decide), fun h => ?_⟩
        obtain ⟨x, hx, he⟩ := hasK_iff.1 h2
        have := h.2
        unfold DisK at this
        rw [List.pairwise_append] at this
        exact absurd he (this.2.2 x hx t (by simp))
      | false =>
        rw [cond_false]
        have hd : DisK (a ++ [t]) := by
          unfold DisK
          rw [List.pairwise_append]
          exact ⟨ha, by simp, fun x hx y hy => by
            have : y = t := by simpa using hy
            subst this
            exact hasK_not.1 h2 x hx⟩
        rw [fTok_iff l (a ++ [t]) hd]
        constructor
        · rintro ⟨g1, g2⟩
          refine ⟨fun x hx => ?_, by simpa using g2⟩
          rcases List.mem_cons.1 hx with rfl | hx
          · exact h1'
          · exact g1 x hx
        · rintro ⟨g1, g2⟩
          exact ⟨fun x hx => g1 x (by simp [hx]), by simpa using g2⟩
theorem okIds_of {l : List TokD} (h : ∀ t, t ∈ l → tokS t = 0) : okIds l = true := by
  rw [okIds, List.all_eq_true]
  intro t ht
  simpa using name_size (h t ht)
abbrev SFul : List V → Option V := FT fun (t : TListD × Int × List TokD × Unit) => if t.1.tokens.length ≤ 1000000 ∧ t.2.2.1.length ≤ 1000000 then some (fullS t.1 t.2.1 t.2.2.1) else none
theorem con14 {Φ : Specs} (hg : Idl.Good Try.prog Φ) (h12 : Φ 12 = some SVal) (h25 : Φ 25 = some STok) (h30 : Φ 30 = some SKey)
    (h1 : Φ 31 = none) (h2 : Φ 32 = none)
    (hsort : SortT Try.prog 32 6) (hcmp : Contract Try.prog 26 SByK) : Contract Try.prog 14 SFul := by
  refine conT hg k14 ic14 (by decide) fun C t r h => ?_
  obtain ⟨l, v, ts, u⟩ := t
  dsimp only at h
  split at h
  · rename_i hl
    obtain ⟨hl, hts⟩ := hl
    cases h
    unfold fullS
    cases e1 : validL l == 0 with
    | false =>
      have e1' : (validL l != 0) = true := by simpa using e1
      simp +contextual only [go_sem, ↓reduceIte, Nat.reduceEqDiff, Nat.reduceAdd, Nat.reduceLeDiff, Nat.reduceLT, reduceCtorEq, c14, k14, h12, hl, e1', Bool.not_false, cond_true]
    | true =>
      have e1' : (validL l != 0) = false := by simpa using e1
      cases e2 : decide (v < 1) || decide (v > 2147483647) with
      | true =>
        simp +contextual only [go_sem, ↓reduceIte, Nat.reduceEqDiff, Nat.reduceAdd, Nat.reduceLeDiff, Nat.reduceLT, reduceCtorEq, c14, k14, h12, hl, e1', e2, Bool.not_true, cond_true, cond_false]
      | false =>
        cases e3 : decide (v ≤ l.version) with
        | true =>
          simp +contextual only [go_sem, ↓reduceIte, Nat.reduceEqDiff, Nat.reduceAdd, Nat.reduceLeDiff, Nat.reduceLT, reduceCtorEq, c14, k14, h12, hl, e1', e2, e3, Bool.not_true, cond_true, cond_false]
        | false =>
          cases e4 : decide ((ts.length : Int) > 128) with
          | true =>
            simp +contextual only [go_sem, ↓reduceIte, Nat.reduceEqDiff, Nat.reduceAdd, Nat.reduceLeDiff, Nat.reduceLT, reduceCtorEq, c14, k14, h12, hl, e1', e2, e3, e4, List.length_map, Bool.not_true, cond_true, cond_false]
          | false =>
            simp +contextual only [go_sem, ↓reduceIte, Nat.reduceEqDiff, Nat.reduceAdd, Nat.reduceLeDiff, Nat.reduceLT, reduceCtorEq, c14, k14, h12, hl, e1', e2, e3, e4, List.length_map, Option.map_none, Bool.not_true, cond_true, cond_false]
            refine TriI.loopL hg k14 ts (fun i (a : List TokD) => ⟨slotsL [(1, .sc (.int .i64 v)), (2, Cod.enc ts), (3, .ref 0 0 0), (6, .ref 1 0 0), (7, .sc (.int .i64 0)), (9, .mapr 2), (38, Cod.enc ts), (39, .sc (.int .i64 ts.length)), (40, .sc (.int .i64 i))],
                objsL [.live 2 [Cod.enc l] true, .live 2 [.agg [.sc (.int .i64 0), .sc (.slice none 0 0)]] true, .ext (.map (keysM (seenK a)) (valsM (seenK a)))], 3⟩)
              (fun xs a => ts = a ++ xs ∧ fTok a xs = fTok [] ts) [] (.back rfl ?_) ⟨rfl, rfl⟩ ?_ ?_
            · simp +contextual only [go_sem, ↓reduceIte, Nat.reduceEqDiff, Nat.reduceAdd, Nat.reduceLeDiff, Nat.reduceLT, reduceCtorEq, List.length_map]
              exact ⟨rfl, rfl, rfl⟩
            · intro a hinv
              obtain ⟨g1, g2⟩ := hinv
              have g0 : fTok [] ts = 0 := by rw [← g2]; cases a <;> rfl
              obtain ⟨q1, q2⟩ := (fTok_iff ts [] .nil).1 g0
              rw [g0]
              have e4' : ts.length ≤ 128 := by simp at e4; omega
              have hok := okIds_of q1
              have b1 : ts.length * 72 ≤ 68719476736 := by omega
              have b2 : ts.length ≤ 4294967296 := by omega
              simp +contextual only [go_sem, ↓reduceIte, Nat.reduceEqDiff, Nat.reduceAdd, Nat.reduceLeDiff, Nat.reduceLT, reduceCtorEq, k14, Int.lt_irrefl, decide_false, h1, h2]
              refine CallT.own0 (sz := 6) ?_
              refine CallT.of_walk hg k31 ic31 (by simp) fun C1 hlow1 => ?_
              simp +contextual only [go_sem, ↓reduceIte, Nat.reduceEqDiff, Nat.reduceAdd, Nat.reduceLeDiff, Nat.reduceLT, reduceCtorEq, c31, k31]
              refine stepI_nil Try.underlying22 rfl fun b hb => ?_
              cases b with
              | true =>
                have h0 : ts = [] := by simpa using hb rfl
                subst h0
                simp +contextual only [go_sem, ↓reduceIte, Nat.reduceEqDiff, Nat.reduceAdd, Nat.reduceLeDiff, Nat.reduceLT, reduceCtorEq, k31]
                refine .inl ?_
                refine sortToks hsort hcmp (acc := []) rfl (by decide) rfl .nil ?_
                have hs0 : srtT [] = [] := rfl
                rw [hs0]
                simp +contextual only [go_sem, ↓reduceIte, Nat.reduceEqDiff, Nat.reduceAdd, Nat.reduceLeDiff, Nat.reduceLT, reduceCtorEq, k14, List.map_nil, List.take_nil, List.drop_nil, List.length_nil, List.all_nil, Nat.add_zero, Nat.zero_add, Nat.le_refl, true_and, and_true, and_self]
                rfl
              | false =>
                simp +contextual only [go_sem, ↓reduceIte, Nat.reduceEqDiff, Nat.reduceAdd, Nat.reduceLeDiff, Nat.reduceLT, reduceCtorEq, k31, List.length_map, List.length_nil, okE_toks, b1, b2, Nat.zero_add, true_and, and_true]
                refine .inr ?_
                refine sortToks hsort hcmp (acc := ts) rfl (by omega) hok (by simpa using q2) ?_
                have hsl : (srtT ts).length = ts.length := (sort_perm (by simpa using q2)).length_eq
                have hT : ((srtT ts).map Cod.enc).take ts.length = (srtT ts).map Cod.enc := List.take_of_length_le (by simp [hsl])
                simp +contextual only [go_sem, ↓reduceIte, Nat.reduceEqDiff, Nat.reduceAdd, Nat.reduceLeDiff, Nat.reduceLT, reduceCtorEq, k14, List.length_map, hsl, Nat.zero_add, Nat.le_refl, isF_toks, hT, true_and, and_true, decL_enc Cod.dec_enc]
                rfl
            · intro i a x xs hdr hlt hx hinv
              obtain ⟨g1, g2⟩ := hinv
              have hw := wrap_nat hlt (by omega)
              rw [fTok] at g2
              cases h4 : tokS x == 0 with
              | false =>
                have h4' : (tokS x != 0) = true := by simpa using h4
                rw [h4, Bool.not_false, cond_true] at g2
                simp +contextual only [go_sem, ↓reduceIte, Nat.reduceEqDiff, Nat.reduceAdd, Nat.reduceLeDiff, Nat.reduceLT, reduceCtorEq, k14, lt_dec hlt, hx, hw, h25, h4', List.getElem?_map, Option.map_some, Int.natCast_nonneg, Int.toNat_natCast]
                have hne : (fTok [] ts == 0) = false := by rw [← g2]; exact h4
                rw [hne, Bool.not_false, cond_true, g2]
              | true =>
                have h4' : (tokS x != 0) = false := by simpa using h4
                have h5 : tokS x = 0 := by simpa using h4
                have hxs := name_size h5
                rw [h4, Bool.not_true, cond_false] at g2
                have hlk := look_seen a (kT x)
                cases hh : hasK a (kT x) with
                | true =>
                  rw [hh, if_pos rfl] at hlk
                  rw [hh, cond_true] at g2
                  have hlk' : lookM (seenK a) (keyB x.id) = some true := hlk
                  simp +contextual only [go_sem, ↓reduceIte, Nat.reduceEqDiff, Nat.reduceAdd, Nat.reduceLeDiff, Nat.reduceLT, reduceCtorEq, k14, lt_dec hlt, hx, hw, h25, h30, h4', hxs, hlk', List.getElem?_map, Option.map_some, Int.natCast_nonneg, Int.toNat_natCast]
                  rw [← g2]
                  rfl
                | false =>
                  rw [hh, if_neg (by decide)] at hlk
                  rw [hh, cond_false] at g2
                  have hlk' : lookM (seenK a) (keyB x.id) = none := hlk
                  have hpm : putM (seenK a) (keyB x.id) true = seenK (a ++ [x]) := put_seen hh
                  simp +contextual only [go_sem, ↓reduceIte, Nat.reduceEqDiff, Nat.reduceAdd, Nat.reduceLeDiff, Nat.reduceLT, reduceCtorEq, k14, lt_dec hlt, hx, hw, h25, h30, h4', hxs, hlk', hpm, List.getElem?_map, Option.map_some, Int.natCast_nonneg, Int.toNat_natCast]
                  refine ⟨a ++ [x], ⟨by rw [g1]; simp, g2⟩, .back rfl ?_⟩
                  simp +contextual only [go_sem, ↓reduceIte, Nat.reduceEqDiff, Nat.reduceAdd, Nat.reduceLeDiff, Nat.reduceLT, reduceCtorEq, low_seen, low_toks]
  · cases h
theorem okIds_take {l : List TokD} (h : okIds l = true) (n : Nat) : okIds (l.take n) = true := by
  rw [okIds, List.all_eq_true] at h ⊢
  exact fun t ht => h t (List.mem_of_mem_take ht)
theorem ok_ins {l : List TokD} {x : TokD} (h : okIds l = true) (hx : x.id.size ≤ 1000000) : okIds (insK l x) = true := by
  rw [okIds, List.all_eq_true] at h ⊢
  intro t ht
  unfold insK at ht
  simp only [List.mem_append, List.mem_filter, List.mem_singleton] at ht
  rcases ht with (ht | rfl) | ht
  · exact h t ht.1
  · simpa using hx
  · exact h t ht.1
theorem len_ins (l : List TokD) (x : TokD) : (insK l x).length ≤ l.length + 1 := by
  have hp : ∀ l : List TokD, (l.filter (fun t => ltS (kT t) (kT x))).length + (l.filter (fun t => ltS (kT x) (kT t))).length ≤ l.length := by
    intro l
    induction l with
    | nil => simp
    | cons t l ih =>
      cases h1 : ltS (kT t) (kT x) with
      | true =>
        rw [List.filter_cons_of_pos (by simpa using h1), List.filter_cons_of_neg (by simp [lt_asym h1]), List.length_cons, List.length_cons]
        omega
      | false =>
        rw [List.filter_cons_of_neg (by simp [h1])]
        cases h2 : ltS (kT x) (kT t) with
        | true => rw [List.filter_cons_of_pos (by simpa using h2), List.length_cons, List.length_cons]; omega
        | false => rw [List.filter_cons_of_neg (by simp [h2]), List.length_cons]; omega
  have := hp l
  simp only [insK, List.length_append, List.length_singleton]
  omega
theorem con15 {Φ : Specs} (hg : Idl.Good Try.prog Φ) (h13 : Φ 13 = some SVal) (h28 : Φ 28 = some STok) (h29 : Φ 29 = some SKey)
    (h27 : Φ 27 = some SNum) (h33 : Φ 33 = some SFnd) (h34 : Φ 34 = some SIns) : Contract Try.prog 15 SFul := by
  refine conT hg k15 ic15 (by decide) fun C t r h => ?_
  obtain ⟨l, v, ts, u⟩ := t
  dsimp only at h
  split at h
  · rename_i hl
    obtain ⟨hl, hts⟩ := hl
    cases h
    unfold fullS
    cases e1 : validL l == 0 with
    | false =>
      have e1' : (validL l != 0) = true := by simpa using e1
      simp +contextual only [go_sem, ↓reduceIte, Nat.reduceEqDiff, Nat.reduceAdd, Nat.reduceLeDiff, Nat.reduceLT, reduceCtorEq, c15, k15, h13, hl, e1', Bool.not_false, cond_true]
    | true =>
      have e1' : (validL l != 0) = false := by simpa using e1
      have hn : (decide (v < 1) || decide (v > 2147483647)) = !(decide (v ≥ 1) && decide (v ≤ 2147483647)) := by
        rw [Bool.eq_iff_iff]; simp; first | done | omega
      rw [hn]
      cases e2 : decide (v ≥ 1) && decide (v ≤ 2147483647) with
      | false =>
        simp +contextual only [go_sem, ↓reduceIte, Nat.reduceEqDiff, Nat.reduceAdd, Nat.reduceLeDiff, Nat.reduceLT, reduceCtorEq, c15, k15, h13, h27, hl, e1', e2, Bool.not_true, Bool.not_false, cond_true, cond_false]
      | true =>
        cases e3 : decide (v ≤ l.version) with
        | true =>
          simp +contextual only [go_sem, ↓reduceIte, Nat.reduceEqDiff, Nat.reduceAdd, Nat.reduceLeDiff, Nat.reduceLT, reduceCtorEq, c15, k15, h13, h27, hl, e1', e2, e3, Bool.not_true, cond_true, cond_false]
        | false =>
          cases e4 : decide ((ts.length : Int) > 128) with
          | true =>
            simp +contextual only [go_sem, ↓reduceIte, Nat.reduceEqDiff, Nat.reduceAdd, Nat.reduceLeDiff, Nat.reduceLT, reduceCtorEq, c15, k15, h13, h27, hl, e1', e2, e3, e4, List.length_map, Bool.not_true, cond_true, cond_false]
          | false =>
            have e4' : ts.length ≤ 128 := by simp at e4; omega
            simp +contextual only [go_sem, ↓reduceIte, Nat.reduceEqDiff, Nat.reduceAdd, Nat.reduceLeDiff, Nat.reduceLT, reduceCtorEq, c15, k15, h13, h27, hl, e1', e2, e3, e4, List.length_map, Option.map_none, Bool.not_true, cond_true, cond_false]
            refine TriI.loopL hg k15 ts (fun i (b : List TokD) => ⟨slotsL [(1, .sc (.int .i64 v)), (2, Cod.enc ts), (3, .ref 0 0 0), (6, .ref 1 0 0), (7, .sc (.int .i64 0)), (9, .slice 6 (b.map Cod.enc)), (10, .sc (.int .i64 i))],
                objsL [.live 2 [Cod.enc l] true, .live 2 [.agg [.sc (.int .i64 0), .sc (.slice none 0 0)]] true], 2⟩)
              (fun xs b => ∃ a, ts = a ++ xs ∧ fTok a xs = fTok [] ts ∧ b = srtT a ∧ okIds a = true ∧ okIds b = true ∧ b.length + xs.length ≤ 128) [] ((LeF.nilsl 9 6 rfl).trans (.back rfl ?_)) ⟨[], rfl, rfl, rfl, rfl, rfl, by simpa using e4'⟩ ?_ ?_
            · simp +contextual only [go_sem, ↓reduceIte, Nat.reduceEqDiff, Nat.reduceAdd, Nat.reduceLeDiff, Nat.reduceLT, reduceCtorEq, List.length_map, List.map_nil]
              rfl
            · intro b hinv
              obtain ⟨a, g1, g2, rfl, g3, g4, g5⟩ := hinv
              have ha : a = ts := by rw [g1]; simp
              subst ha
              have g0 : fTok [] a = 0 := by rw [← g2]; cases a <;> rfl
              rw [g0]
              simp +contextual only [go_sem, ↓reduceIte, Nat.reduceEqDiff, Nat.reduceAdd, Nat.reduceLeDiff, Nat.reduceLT, reduceCtorEq, k15, Int.lt_irrefl, decide_false, List.length_map]
              rfl
            · intro i b x xs hdr hlt hx hinv
              obtain ⟨a, g1, g2, g3, g4, g5, g6⟩ := hinv
              have hw := wrap_nat hlt (by omega)
              have hi := drop_pre hdr g1
              have hta : ts.take i = a := by rw [g1, hi, List.take_left]
              rw [fTok] at g2
              cases h4 : tokS x == 0 with
              | false =>
                have h4' : (tokS x != 0) = true := by simpa using h4
                rw [h4, Bool.not_false, cond_true] at g2
                simp +contextual only [go_sem, ↓reduceIte, Nat.reduceEqDiff, Nat.reduceAdd, Nat.reduceLeDiff, Nat.reduceLT, reduceCtorEq, k15, lt_dec hlt, hx, hw, h28, h4', List.length_map, List.getElem?_map, Option.map_some, Int.natCast_nonneg, Int.toNat_natCast]
                have hne : (fTok [] ts == 0) = false := by rw [← g2]; exact h4
                rw [hne, Bool.not_false, cond_true, g2]
              | true =>
                have h4' : (tokS x != 0) = false := by simpa using h4
                have h5 : tokS x = 0 := by simpa using h4
                have hxs := name_size h5
                rw [h4, Bool.not_true, cond_false] at g2
                have hal : a.length ≤ 1000000 := by
                  have := congrArg List.length g1
                  rw [List.length_append] at this
                  omega
                have hbl : b.length ≤ 10000 := by omega
                have hmt : (ts.map Cod.enc).take i = (a.map Cod.enc : List V) := by rw [← List.map_take, hta]
                have hdk : decide (idxK a (keyB x.id) 0 ≥ 0) = hasK a (kT x) := idxK_ge a (kT x)
                cases hh : hasK a (kT x) with
                | true =>
                  rw [hh, cond_true] at g2
                  rw [hh] at hdk
                  simp +contextual only [go_sem, ↓reduceIte, Nat.reduceEqDiff, Nat.reduceAdd, Nat.reduceLeDiff, Nat.reduceLT, reduceCtorEq, k15, lt_dec hlt, hx, hw, h28, h29, h33, h4', hxs, hdk, hmt, hal, g4, Nat.le_of_lt hlt, Nat.zero_le, List.drop_zero, Option.map_none, and_self, List.length_map, List.getElem?_map, Option.map_some, Int.natCast_nonneg, Int.toNat_natCast]
                  exact ⟨rfl, by rw [← g2]; rfl⟩
                | false =>
                  rw [hh, cond_false] at g2
                  rw [hh] at hdk
                  simp +contextual only [go_sem, ↓reduceIte, Nat.reduceEqDiff, Nat.reduceAdd, Nat.reduceLeDiff, Nat.reduceLT, reduceCtorEq, k15, lt_dec hlt, hx, hw, h28, h29, h33, h34, h4', hxs, hdk, hmt, hal, hbl, g4, g5, Nat.le_of_lt hlt, Nat.zero_le, List.drop_zero, Option.map_none, and_self, List.length_map, List.getElem?_map, Option.map_some, Int.natCast_nonneg, Int.toNat_natCast]
                  have hsa : srtT (a ++ [x]) = insK b x := by rw [srtT, List.foldl_append, g3]; rfl
                  refine ⟨rfl, insK b x, ⟨a ++ [x], by rw [g1]; simp, g2, hsa.symm, ?_, ok_ins g5 hxs, ?_⟩, .back rfl ?_⟩
                  · rw [okIds, List.all_append, show (a.all fun t => decide (t.id.size ≤ 1000000)) = true from g4]
                    simpa using hxs
                  · have := len_ins b x
                    rw [List.length_cons] at g6
                    omega
                  · simp +contextual only [go_sem, ↓reduceIte, Nat.reduceEqDiff, Nat.reduceAdd, Nat.reduceLeDiff, Nat.reduceLT, reduceCtorEq, low_toks]
  · cases h
end Go.Proofs.Ytlkejejgaenjcaa
