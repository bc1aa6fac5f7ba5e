/- Change: the walk. -/
import Derived.Test.YtlkejejgaenjcaaList22h
namespace Go.Proofs.Ytlkejejgaenjcaa
set_option linter.all false
open Go.Idl
set_option maxHeartbeats 4000000
set_option maxRecDepth 100000
attribute [local go_sem] eqTok agTok agLst Try.underlying3 Try.underlying5 Try.underlying9 Try.underlying4
def chgK (a : List TokD) : List (ByteArray × TokD) := a.map fun t => (kT t, t)
theorem look_chg {a : List TokD} (k : ByteArray) : lookM (chgK a) k = a.find? fun t => decide (k = kT t) := by
  induction a with
  | nil => rfl
  | cons x a ih =>
    simp only [chgK, List.map_cons, lookM, List.find?_cons]
    cases h : decide (k = kT x) with
    | true => rfl
    | false => exact ih
theorem look_chg_no {a : List TokD} {k : ByteArray} (h : hasK a k = false) : lookM (chgK a) k = none := by
  rw [look_chg, List.find?_eq_none]
  intro t ht
  have := hasK_not.1 h t ht
  simp only [decide_eq_true_eq]
  exact fun e => this e.symm
theorem look_chg_yes {a : List TokD} {k : ByteArray} (h : hasK a k = true) : ∃ t, lookM (chgK a) k = some t := by
  rw [look_chg]
  obtain ⟨t, ht, he⟩ := hasK_iff.1 h
  cases hf : a.find? fun t => decide (k = kT t) with
  | some x => exact ⟨x, rfl⟩
  | none =>
    rw [List.find?_eq_none] at hf
    exact absurd he.symm (by simpa using hf t ht)
theorem put_chg {a : List TokD} {t : TokD} (h : hasK a (kT t) = false) : putM (chgK a) (kT t) t = chgK (a ++ [t]) := by
  unfold putM
  have : fidx (chgK a) (kT t) = none := by rw [← lookM_none]; exact look_chg_no h
  rw [this]
  simp [chgK]
theorem low_chg (n : Nat) (a : List TokD) : (valsM (chgK a)).all (V.low n) = true := by
  simp only [valsM, chgK, List.all_map, List.all_eq_true]
  intro x _
  rfl
theorem isF_chg (a : List TokD) : (valsM (chgK a)).all V.isF = true := by
  simp only [valsM, chgK, List.all_map, List.all_eq_true]
  intro x _
  rfl
theorem putB_chg {id : Nat} {a : List TokD} {t : TokD} (h : hasK a (kT t) = false) : putF' id (.string (keyB t.id)) (.agg [.sc (.string t.id), .sc (.string t.group), .sc (.string t.contract), .sc (.int .i64 t.kind), .sc (.int .i64 t.status), .sc (.int .i64 t.expiry)]) (keysM (chgK a)) (valsM (chgK a)) (some (fidx (chgK a) (keyB t.id))) =
    some (.any, [(id, .ext (.map (keysM (chgK (a ++ [t]))) (valsM (chgK (a ++ [t])))))]) := by
  rw [← put_chg h]
  exact putF_typed id _ _ (chgK a) (kT t) t rfl rfl
abbrev SCol : List V → Option V := FT fun (t : List TokD × List TokD × Unit) => if vTok none t.1 = 0 ∧ t.1.length ≤ 1000000 ∧ t.2.1.length ≤ 1000000 then some (bif !(cTok t.1 [] t.2.1 == 0) then ((⟨none⟩ : KM ByteArray TokD), cTok t.1 [] t.2.1) else (⟨some (chgK t.2.1)⟩, 0)) else none
theorem con35 {Φ : Specs} (hg : Idl.Good Try.prog Φ) (h30 : Φ 30 = some SKey) (h42 : Φ 42 = some SItm) : Contract Try.prog 35 SCol := by
  refine conT hg k35 ic35 (by decide) fun C t r h => ?_
  obtain ⟨old, ts, u⟩ := t
  dsimp only at h
  split at h
  · rename_i hl
    obtain ⟨hv, hl, hts⟩ := hl
    cases h
    obtain ⟨o1, o2, _⟩ := (vTok_iff old none).1 hv
    have od := sorted_dis o2
    simp +contextual only [go_sem, ↓reduceIte, Nat.reduceEqDiff, Nat.reduceAdd, Nat.reduceLeDiff, Nat.reduceLT, reduceCtorEq, c35, k35, List.length_map, Option.map_none]
    refine TriI.loopL hg k35 old (fun i (a : List TokD) => ⟨slotsL [(0, Cod.enc old), (1, Cod.enc ts), (4, .sc (.map none)), (5, .sc (.int .i64 0)), (6, .mapr 0), (17, Cod.enc old), (18, .sc (.int .i64 old.length)), (19, .sc (.int .i64 i))],
        objsL [.ext (.map (keysM (seenK a)) (valsM (seenK a)))], 1⟩) (fun xs a => old = a ++ xs) [] (.back rfl ?_) rfl ?_ ?_
    · simp +contextual only [go_sem, ↓reduceIte, Nat.reduceEqDiff, Nat.reduceAdd, Nat.reduceLeDiff, Nat.reduceLT, reduceCtorEq, List.length_map]
      exact ⟨rfl, rfl, rfl⟩
    · intro a hinv
      have ha : a = old := by rw [hinv]; simp
      subst ha
      simp +contextual only [go_sem, ↓reduceIte, Nat.reduceEqDiff, Nat.reduceAdd, Nat.reduceLeDiff, Nat.reduceLT, reduceCtorEq, k35, Int.lt_irrefl, decide_false, List.length_map, Option.map_none]
      refine TriI.loopL hg k35 ts (fun i (b : List TokD) => ⟨slotsL [(4, .sc (.map none)), (5, .sc (.int .i64 0)), (6, .mapr 0), (9, .mapr 1), (29, Cod.enc ts), (30, .sc (.int .i64 ts.length)), (31, .sc (.int .i64 i))],
          objsL [.ext (.map (keysM (seenK a)) (valsM (seenK a))), .ext (.map (keysM (chgK b)) (valsM (chgK b)))], 2⟩) (fun xs b => ts = b ++ xs ∧ cTok a b xs = cTok a [] ts) [] (.back rfl ?_) ⟨rfl, rfl⟩ ?_ ?_
      · simp +contextual only [go_sem, ↓reduceIte, Nat.reduceEqDiff, Nat.reduceAdd, Nat.reduceLeDiff, Nat.reduceLT, reduceCtorEq, List.length_map, low_seen]
        exact ⟨rfl, rfl, rfl⟩
      · intro b hinv2
        obtain ⟨g1, g2⟩ := hinv2
        have hb : b = ts := by rw [g1]; simp
        subst hb
        have g0 : cTok a [] b = 0 := by rw [← g2]; cases b <;> rfl
        rw [g0]
        simp +contextual only [go_sem, ↓reduceIte, Nat.reduceEqDiff, Nat.reduceAdd, Nat.reduceLeDiff, Nat.reduceLT, reduceCtorEq, k35, Int.lt_irrefl, decide_false, isF_chg]
        rfl
      · intro i b x xs hdr hlt hx hinv2
        obtain ⟨g1, g2⟩ := hinv2
        have hw := wrap_nat hlt (by omega)
        rw [cTok] at g2
        cases h4 : itemS x == 0 with
        | false =>
          have h4' : (itemS x != 0) = true := by simpa using h4
          rw [h4, Bool.not_false, cond_true] at g2
          simp +contextual only [go_sem, ↓reduceIte, Nat.reduceEqDiff, Nat.reduceAdd, Nat.reduceLeDiff, Nat.reduceLT, reduceCtorEq, k35, lt_dec hlt, hx, hw, h42, h4', List.getElem?_map, Option.map_some, Int.natCast_nonneg, Int.toNat_natCast]
          have hne : (cTok a [] ts == 0) = false := by rw [← g2]; exact h4
          rw [hne, Bool.not_false, cond_true, g2]
        | true =>
          have h4' : (itemS x != 0) = false := by simpa using h4
          have h5 : itemS x = 0 := by simpa using h4
          have hxs := item_size h5
          rw [h4, Bool.not_true, cond_false] at g2
          cases hh : hasK b (kT x) with
          | true =>
            rw [hh, cond_true] at g2
            obtain ⟨y, hy⟩ := look_chg_yes hh
            have hlk' : lookM (chgK b) (keyB x.id) = some y := hy
            simp +contextual only [go_sem, ↓reduceIte, Nat.reduceEqDiff, Nat.reduceAdd, Nat.reduceLeDiff, Nat.reduceLT, reduceCtorEq, k35, lt_dec hlt, hx, hw, h42, h30, h4', hxs, hlk', List.getElem?_map, Option.map_some, Int.natCast_nonneg, Int.toNat_natCast]
            rw [← g2]
            rfl
          | false =>
            rw [hh, cond_false] at g2
            have hlk' : lookM (chgK b) (keyB x.id) = none := look_chg_no hh
            have hlo := look_seen a (kT x)
            have hpt := putB_chg (id := 1) hh
            cases hs : x.status == 0 && !hasK a (kT x) with
            | true =>
              rw [hs, cond_true] at g2
              simp only [Bool.and_eq_true, Bool.not_eq_true'] at hs
              rw [hs.2, if_neg (by decide)] at hlo
              have hlo' : lookM (seenK a) (keyB x.id) = none := hlo
              simp +contextual only [go_sem, ↓reduceIte, Nat.reduceEqDiff, Nat.reduceAdd, Nat.reduceLeDiff, Nat.reduceLT, reduceCtorEq, k35, lt_dec hlt, hx, hw, h42, h30, h4', hxs, hlk', hlo', hs.1, List.getElem?_map, Option.map_some, Int.natCast_nonneg, Int.toNat_natCast]
              rw [← g2]
              rfl
            | false =>
              rw [hs, cond_false] at g2
              cases hst : x.status == 0 with
              | true =>
                rw [hst, Bool.true_and] at hs
                have hs' : hasK a (kT x) = true := by simpa using hs
                rw [hs', if_pos rfl] at hlo
                have hlo' : lookM (seenK a) (keyB x.id) = some true := hlo
                simp +contextual only [go_sem, ↓reduceIte, Nat.reduceEqDiff, Nat.reduceAdd, Nat.reduceLeDiff, Nat.reduceLT, reduceCtorEq, k35, lt_dec hlt, hx, hw, h42, h30, h4', hxs, hlk', hlo', hst, hpt, List.getElem?_map, Option.map_some, Int.natCast_nonneg, Int.toNat_natCast]
                refine ⟨b ++ [x], ⟨by rw [g1]; simp, g2⟩, .back rfl ?_⟩
                simp +contextual only [go_sem, ↓reduceIte, Nat.reduceEqDiff, Nat.reduceAdd, Nat.reduceLeDiff, Nat.reduceLT, reduceCtorEq, low_seen, low_chg]
              | false =>
                simp +contextual only [go_sem, ↓reduceIte, Nat.reduceEqDiff, Nat.reduceAdd, Nat.reduceLeDiff, Nat.reduceLT, reduceCtorEq, k35, lt_dec hlt, hx, hw, h42, h30, h4', hxs, hlk', hst, hpt, List.getElem?_map, Option.map_some, Int.natCast_nonneg, Int.toNat_natCast]
                refine ⟨b ++ [x], ⟨by rw [g1]; simp, g2⟩, .back rfl ?_⟩
                simp +contextual only [go_sem, ↓reduceIte, Nat.reduceEqDiff, Nat.reduceAdd, Nat.reduceLeDiff, Nat.reduceLT, reduceCtorEq, low_seen, low_chg]
    · intro i a x xs hdr hlt hx hinv
      have hw := wrap_nat hlt (by omega)
      have hxs := name_size (o1 x (List.mem_of_getElem? hx))
      have hh : hasK a (kT x) = false := by
        rw [hasK_not]
        intro t ht
        rw [hinv] at od
        unfold DisK at od
        rw [List.pairwise_append] at od
        exact od.2.2 t ht x (by simp)
      have hpm : putM (seenK a) (keyB x.id) true = seenK (a ++ [x]) := put_seen hh
      simp +contextual only [go_sem, ↓reduceIte, Nat.reduceEqDiff, Nat.reduceAdd, Nat.reduceLeDiff, Nat.reduceLT, reduceCtorEq, k35, lt_dec hlt, hx, hw, hxs, h30, hpm, List.getElem?_map, Option.map_some, Int.natCast_nonneg, Int.toNat_natCast]
      refine ⟨a ++ [x], by rw [hinv]; simp, .back rfl ?_⟩
      simp +contextual only [go_sem, ↓reduceIte, Nat.reduceEqDiff, Nat.reduceAdd, Nat.reduceLeDiff, Nat.reduceLT, reduceCtorEq, low_seen]
  · cases h
abbrev SChg : List V → Option V := FT fun (t : TListD × Int × Int × List TokD × Unit) => if t.1.tokens.length ≤ 1000000 ∧ t.2.2.2.1.length ≤ 1000000 then some (changeS t.1 t.2.1 t.2.2.1 t.2.2.2.1) else none
theorem con17 {Φ : Specs} (hg : Idl.Good Try.prog Φ) (h12 : Φ 12 = some SVal) (h30 : Φ 30 = some SKey) (h35 : Φ 35 = some SCol)
    (h2 : Φ 32 = none)
    (hsort : SortT Try.prog 32 6) (hcmp : Contract Try.prog 26 SByK) : Contract Try.prog 17 SChg := by
  refine conT hg k17 ic17 (by decide) fun C t r h => ?_
  obtain ⟨l, base, v, ts, u⟩ := t
  dsimp only at h
  split at h
  · rename_i hl
    obtain ⟨hl, hts⟩ := hl
    cases h
    unfold changeS
    cases e1 : validL l == 0 with
    | false =>
      have e1' : (validL l != 0) = true := by simpa using e1
      simp +contextual only [go_sem, ↓reduceIte, Nat.reduceEqDiff, Nat.reduceAdd, Nat.reduceLeDiff, Nat.reduceLT, reduceCtorEq, c17, k17, h12, hl, e1', Bool.not_false, cond_true]
    | true =>
      have e1' : (validL l != 0) = false := by simpa using e1
      have hw0 := (valid_iff l).1 (by simpa using e1)
      have hv0 : vTok none l.tokens = 0 := (vTok_iff _ _).2 ⟨hw0.ok, hw0.sorted, fun q hq => by cases hq⟩
      cases e2 : decide (v < 1) || decide (v > 2147483647) with
      | true =>
        simp +contextual only [go_sem, ↓reduceIte, Nat.reduceEqDiff, Nat.reduceAdd, Nat.reduceLeDiff, Nat.reduceLT, reduceCtorEq, c17, k17, h12, hl, e1', e2, Bool.not_true, cond_true, cond_false]
      | false =>
        cases e3 : (base != l.version) || decide (v ≤ base) with
        | true =>
          simp +contextual only [go_sem, ↓reduceIte, Nat.reduceEqDiff, Nat.reduceAdd, Nat.reduceLeDiff, Nat.reduceLT, reduceCtorEq, c17, k17, h12, hl, e1', e2, e3, Bool.not_true, cond_true, cond_false]
        | false =>
          cases e4 : decide ((ts.length : Int) > 128) with
          | true =>
            simp +contextual only [go_sem, ↓reduceIte, Nat.reduceEqDiff, Nat.reduceAdd, Nat.reduceLeDiff, Nat.reduceLT, reduceCtorEq, c17, k17, h12, hl, e1', e2, e3, e4, List.length_map, Bool.not_true, cond_true, cond_false]
          | false =>
            have e4' : ts.length ≤ 128 := by simp at e4; omega
            cases e5 : cTok l.tokens [] ts == 0 with
            | false =>
              have e5' : (cTok l.tokens [] ts != 0) = true := by simpa using e5
              simp +contextual only [go_sem, ↓reduceIte, Nat.reduceEqDiff, Nat.reduceAdd, Nat.reduceLeDiff, Nat.reduceLT, reduceCtorEq, c17, k17, h12, h35, hl, hts, hv0, and_self, e1', e2, e3, e4, e5, e5', List.length_map, Option.map_none, Bool.not_true, Bool.not_false, cond_true, cond_false]
            | true =>
              obtain ⟨q1, q2⟩ := (cTok_iff l.tokens ts [] .nil).1 (by simpa using e5)
              have q2' : DisK ts := by simpa using q2
              have hmx := hw0.max
              simp +contextual only [go_sem, ↓reduceIte, Nat.reduceEqDiff, Nat.reduceAdd, Nat.reduceLeDiff, Nat.reduceLT, reduceCtorEq, c17, k17, h12, h35, hl, hts, hv0, and_self, e1', e2, e3, e4, e5, bne_self_eq_false, List.length_map, Option.map_none, Bool.not_true, Bool.not_false, cond_true, cond_false]
              refine TriI.loopL hg k17 l.tokens (fun i (a : List TokD) => ⟨slotsL [(2, .sc (.int .i64 v)), (3, Cod.enc ts), (4, .ref 0 0 0), (8, .ref 1 0 0), (9, .sc (.int .i64 0)), (11, .mapf (keysM (chgK ts)) (valsM (chgK ts))), (13, .own 2 0 a.length), (59, Cod.enc l.tokens), (60, .sc (.int .i64 l.tokens.length)), (61, .sc (.int .i64 i))],
                  objsL [.live 2 [Cod.enc l] true, .live 2 [.agg [.sc (.int .i64 0), .sc (.slice none 0 0)]] true, .live 6 (a.map Cod.enc) true], 3⟩)
                (fun xs a => l.tokens.filter (keptT ts) = a ++ xs.filter (keptT ts) ∧ a.length + xs.length ≤ 128) [] (.ren [some 0, some 1, none] rfl rfl 2 ?_) ⟨rfl, by simpa using hmx⟩ ?_ ?_
              · simp +contextual only [go_sem, ↓reduceIte, Nat.reduceEqDiff, Nat.reduceAdd, Nat.reduceLeDiff, Nat.reduceLT, reduceCtorEq, List.length_map, List.map_nil, List.length_nil]
                rfl
              · intro a hinv
                obtain ⟨g1, g2⟩ := hinv
                rw [List.filter_nil, List.append_nil] at g1
                rw [List.length_nil, Nat.add_zero] at g2
                simp +contextual only [go_sem, ↓reduceIte, Nat.reduceEqDiff, Nat.reduceAdd, Nat.reduceLeDiff, Nat.reduceLT, reduceCtorEq, k17, Int.lt_irrefl, decide_false, List.length_map]
                refine TriI.loopL hg k17 ts (fun i (b : List TokD) => ⟨slotsL [(2, .sc (.int .i64 v)), (4, .ref 0 0 0), (8, .ref 1 0 0), (9, .sc (.int .i64 0)), (13, .own 2 0 b.length), (80, Cod.enc ts), (81, .sc (.int .i64 ts.length)), (82, .sc (.int .i64 i))],
                    objsL [.live 2 [Cod.enc l] true, .live 2 [.agg [.sc (.int .i64 0), .sc (.slice none 0 0)]] true, .live 6 (b.map Cod.enc) true], 3⟩)
                  (fun xs b => ∃ c, b = a ++ c ∧ ts.filter putT = c ++ xs.filter putT ∧ c.length + xs.length ≤ 128) a (.back rfl ?_) ⟨[], by simp, rfl, by simpa using e4'⟩ ?_ ?_
                · simp +contextual only [go_sem, ↓reduceIte, Nat.reduceEqDiff, Nat.reduceAdd, Nat.reduceLeDiff, Nat.reduceLT, reduceCtorEq, List.length_map, low_toks]
                  rfl
                · intro b hinv2
                  obtain ⟨c, g3, g4, g5⟩ := hinv2
                  rw [List.filter_nil, List.append_nil] at g4
                  have hbn : b = newT l.tokens ts := by rw [g3, newT, g1, g4]
                  have hdn := new_dis (dis_of hw0) q2'
                  rw [← hbn] at hdn ⊢
                  have hob : okIds b = true := by
                    rw [okIds, List.all_eq_true]
                    intro t ht
                    rw [hbn] at ht
                    rcases new_mem.1 ht with ⟨k1, _⟩ | ⟨k1, _⟩
                    · simpa using name_size (hw0.ok t k1)
                    · simpa using item_size (q1 t k1).1
                  have hb3 : b.length ≤ 1000000 := by
                    have : b.length = a.length + c.length := by rw [g3, List.length_append]
                    rw [List.length_nil] at g5
                    omega
                  cases e6 : decide ((b.length : Int) > 128) with
                  | true =>
                    simp +contextual only [go_sem, ↓reduceIte, Nat.reduceEqDiff, Nat.reduceAdd, Nat.reduceLeDiff, Nat.reduceLT, reduceCtorEq, k17, Int.lt_irrefl, decide_false, e6, cond_true]
                  | false =>
                    simp +contextual only [go_sem, ↓reduceIte, Nat.reduceEqDiff, Nat.reduceAdd, Nat.reduceLeDiff, Nat.reduceLT, reduceCtorEq, k17, Int.lt_irrefl, decide_false, e6, h2, cond_false]
                    refine sortToks hsort hcmp (acc := b) rfl hb3 hob hdn ?_
                    have hsl : (srtT b).length = b.length := (sort_perm hdn).length_eq
                    have hT : ((srtT b).map Cod.enc).take b.length = (srtT b).map Cod.enc := List.take_of_length_le (by simp [hsl])
                    simp +contextual only [go_sem, ↓reduceIte, Nat.reduceEqDiff, Nat.reduceAdd, Nat.reduceLeDiff, Nat.reduceLT, reduceCtorEq, k17, List.length_map, hsl, Nat.zero_add, Nat.le_refl, isF_toks, hT, true_and, and_true, decL_enc Cod.dec_enc]
                · intro i b x xs hdr hlt hx hinv2
                  obtain ⟨c, g3, g4, g5⟩ := hinv2
                  have hw := wrap_nat hlt (by omega)
                  rw [List.length_cons] at g5
                  have hb3 : b.length ≤ 20000 := by
                    have : b.length = a.length + c.length := by rw [g3, List.length_append]
                    omega
                  have b1 : (b.length + 1) * 72 ≤ 68719476736 := by omega
                  have b2 : b.length + 1 ≤ 4294967296 := by omega
                  simp +contextual only [go_sem, ↓reduceIte, Nat.reduceEqDiff, Nat.reduceAdd, Nat.reduceLeDiff, Nat.reduceLT, reduceCtorEq, k17, lt_dec hlt, hx, hw, b1, b2, okE, List.length_map, List.getElem?_map, Option.map_some, Int.natCast_nonneg, Int.toNat_natCast, List.drop_zero, Nat.zero_add, true_and, and_true]
                  refine ⟨fun h => ⟨b ++ [x], ⟨c ++ [x], by rw [g3]; simp, ?_, by simp; omega⟩, .ren [some 0, some 1, some 6] rfl rfl 2 ?_⟩, fun h => ⟨b, ⟨c, g3, ?_, by omega⟩, .back rfl ?_⟩⟩
                  · rw [g4, List.filter_cons_of_pos (show putT x = true from h)]; simp
                  · simp +contextual only [go_sem, ↓reduceIte, Nat.reduceEqDiff, Nat.reduceAdd, Nat.reduceLeDiff, Nat.reduceLT, reduceCtorEq, List.map_append, List.map_cons, List.map_nil, List.length_append, List.length_cons, List.length_nil, List.all_append, low_toks, Nat.zero_add]
                  · rw [g4, List.filter_cons_of_neg (by rw [show putT x = false from h]; decide)]
                  · simp +contextual only [go_sem, ↓reduceIte, Nat.reduceEqDiff, Nat.reduceAdd, Nat.reduceLeDiff, Nat.reduceLT, reduceCtorEq, low_toks]
              · intro i a x xs hdr hlt hx hinv
                obtain ⟨g1, g2⟩ := hinv
                have hw := wrap_nat hlt (by omega)
                rw [List.length_cons] at g2
                have hb3 : a.length ≤ 20000 := by omega
                have b1 : (a.length + 1) * 72 ≤ 68719476736 := by omega
                have b2 : a.length + 1 ≤ 4294967296 := by omega
                have hxs := name_size (hw0.ok x (List.mem_of_getElem? hx))
                cases hh : hasK ts (kT x) with
                | true =>
                  have hk : keptT ts x = false := by simp [keptT, hh]
                  obtain ⟨y, hy⟩ := look_chg_yes hh
                  have hlk' : lookM (chgK ts) (keyB x.id) = some y := hy
                  simp +contextual only [go_sem, ↓reduceIte, Nat.reduceEqDiff, Nat.reduceAdd, Nat.reduceLeDiff, Nat.reduceLT, reduceCtorEq, k17, lt_dec hlt, hx, hw, hxs, h30, hlk', List.length_map, List.getElem?_map, Option.map_some, Int.natCast_nonneg, Int.toNat_natCast]
                  refine ⟨a, ⟨?_, by omega⟩, .back rfl ?_⟩
                  · rw [g1, List.filter_cons_of_neg (by rw [hk]; decide)]
                  · simp +contextual only [go_sem, ↓reduceIte, Nat.reduceEqDiff, Nat.reduceAdd, Nat.reduceLeDiff, Nat.reduceLT, reduceCtorEq, low_toks, low_chg]
                | false =>
                  have hk : keptT ts x = true := by simp [keptT, hh]
                  have hlk' : lookM (chgK ts) (keyB x.id) = none := look_chg_no hh
                  simp +contextual only [go_sem, ↓reduceIte, Nat.reduceEqDiff, Nat.reduceAdd, Nat.reduceLeDiff, Nat.reduceLT, reduceCtorEq, k17, lt_dec hlt, hx, hw, hxs, h30, hlk', b1, b2, okE, List.length_map, List.getElem?_map, Option.map_some, Int.natCast_nonneg, Int.toNat_natCast, List.drop_zero, Nat.zero_add, true_and, and_true]
                  refine ⟨a ++ [x], ⟨?_, by simp; omega⟩, .ren [some 0, some 1, some 8] rfl rfl 2 ?_⟩
                  · rw [g1, List.filter_cons_of_pos hk]; simp
                  · simp +contextual only [go_sem, ↓reduceIte, Nat.reduceEqDiff, Nat.reduceAdd, Nat.reduceLeDiff, Nat.reduceLT, reduceCtorEq, List.map_append, List.map_cons, List.map_nil, List.length_append, List.length_cons, List.length_nil, List.all_append, low_toks, low_chg, Nat.zero_add]
  · cases h
end Go.Proofs.Ytlkejejgaenjcaa
