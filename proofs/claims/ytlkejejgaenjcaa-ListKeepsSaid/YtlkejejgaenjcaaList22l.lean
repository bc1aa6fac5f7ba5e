/- Diff: the walk. -/
import Derived.Test.YtlkejejgaenjcaaList22k
namespace Go.Proofs.Ytlkejejgaenjcaa
set_option linter.all false
open Go.Idl
set_option maxHeartbeats 4000000
set_option maxRecDepth 100000
attribute [local go_sem] eqTok agTok agLst Try.underlying3 Try.underlying5 Try.underlying9 Try.underlying4
theorem entry_none {P : Program} {Φ : Specs} {τ : Nat → V} {H : Heap} {n k it ty a b : Nat} (hx : τ k = .ref it a b) : evIO P Φ n τ H (.pur (pu (.entry (.tmp k)) ty)) = none := by
  simp only [evIO, evPure]
  rw [if_neg]
  simp [pu, Op.operands, opd, hx, V.conc]
structure DfL where
  left : List Nat
  last : Option Nat
  acc : List TokD
def remN (R : List TokD) (j : Nat) : Option TokD := (R[j]?).map remT
theorem fm_congr {α β : Type} {f g : α → Option β} : ∀ {l : List α}, (∀ a, a ∈ l → f a = g a) → l.filterMap f = l.filterMap g
  | [], _ => rfl
  | a :: l, h => by rw [List.filterMap_cons, List.filterMap_cons, h a (by simp), fm_congr fun b hb => h b (by simp [hb])]
theorem app_ind {α : Type} {p : List α → Prop} (h0 : p []) (h : ∀ l a, p l → p (l ++ [a])) : ∀ l, p l := by
  intro l
  have : ∀ r : List α, p r.reverse := by
    intro r
    induction r with
    | nil => exact h0
    | cons a r ih => rw [List.reverse_cons]; exact h _ _ ih
  simpa using this l.reverse
theorem range_rem (R : List TokD) : (List.range R.length).filterMap (remN R) = R.map remT := by
  refine app_ind (p := fun R => (List.range R.length).filterMap (remN R) = R.map remT) rfl (fun l a ih => ?_) R
  rw [List.length_append, List.length_singleton, List.range_succ, List.filterMap_append, List.map_append]
  congr 1
  · rw [← ih]
    refine fm_congr fun j hj => ?_
    have : j < l.length := by simpa using hj
    simp [remN, List.getElem?_append_left this]
  · simp [remN]
theorem perm_left {l : List Nat} {j : Nat} (hn : l.Nodup) (hj : j ∈ l) : l.Perm (j :: l.filter fun x => decide (x ≠ j)) := by
  induction l with
  | nil => cases hj
  | cons x l ih =>
    rw [List.nodup_cons] at hn
    by_cases e : x = j
    · subst e
      have : (x :: l).filter (fun y => decide (y ≠ x)) = l := by
        rw [List.filter_cons_of_neg (by simp), List.filter_eq_self]
        intro y hy
        simpa using fun e => hn.1 (by rw [← e]; exact hy)
      rw [this]
    · have hj' : j ∈ l := by
        rcases List.mem_cons.1 hj with h | h
        · exact absurd h.symm e
        · exact h
      rw [List.filter_cons_of_pos (by simpa using e)]
      exact ((ih hn.2 hj').cons x).trans (List.Perm.swap j x _)
abbrev SDif : List V → Option V := FT fun (t : TListD × TListD × Unit) => if t.1.tokens.length ≤ 1000000 ∧ t.2.1.tokens.length ≤ 1000000 then some (diffS t.1 t.2.1) else none
theorem con19 {Φ : Specs} (hg : Idl.Good Try.prog Φ) (h12 : Φ 12 = some SVal) (h30 : Φ 30 = some SKey)
    (h2 : Φ 32 = none)
    (hsort : SortT Try.prog 32 6) (hcmp : Contract Try.prog 26 SByK) : Contract Try.prog 19 SDif := by
  refine conT hg k19 ic19 (by decide) fun C t r h => ?_
  obtain ⟨a, b, u⟩ := t
  dsimp only at h
  split at h
  · rename_i hl
    obtain ⟨hla, hlb⟩ := hl
    cases h
    unfold diffS
    cases e1 : validL a == 0 with
    | false =>
      have e1' : (validL a != 0) = true := by simpa using e1
      simp +contextual only [go_sem, ↓reduceIte, Nat.reduceEqDiff, Nat.reduceAdd, Nat.reduceLeDiff, Nat.reduceLT, reduceCtorEq, c19, k19, h12, hla, e1', Bool.not_false, cond_true]
    | true =>
      have e1' : (validL a != 0) = false := by simpa using e1
      have wa := (valid_iff a).1 (by simpa using e1)
      have da := dis_of wa
      cases e2 : validL b == 0 with
      | false =>
        have e2' : (validL b != 0) = true := by simpa using e2
        simp +contextual only [go_sem, ↓reduceIte, Nat.reduceEqDiff, Nat.reduceAdd, Nat.reduceLeDiff, Nat.reduceLT, reduceCtorEq, c19, k19, h12, hla, hlb, e1', e2', Bool.not_false, Bool.not_true, cond_true, cond_false]
      | true =>
        have e2' : (validL b != 0) = false := by simpa using e2
        have wb := (valid_iff b).1 (by simpa using e2)
        have db := dis_of wb
        have ma := wa.max
        have mb := wb.max
        cases e3 : decide (b.version ≤ a.version) with
        | true =>
          simp +contextual only [go_sem, ↓reduceIte, Nat.reduceEqDiff, Nat.reduceAdd, Nat.reduceLeDiff, Nat.reduceLT, reduceCtorEq, c19, k19, h12, hla, hlb, e1', e2', e3, Bool.not_true, cond_true, cond_false]
        | false =>
          simp +contextual only [go_sem, ↓reduceIte, Nat.reduceEqDiff, Nat.reduceAdd, Nat.reduceLeDiff, Nat.reduceLT, reduceCtorEq, c19, k19, h12, hla, hlb, e1', e2', e3, List.length_map, Option.map_none, Bool.not_true, cond_true, cond_false]
          refine TriI.loopL hg k19 a.tokens (fun i (p : List TokD) => ⟨slotsL [(2, .ref 0 0 0), (3, .ref 1 0 0), (4, .sc (.slice none 0 0)), (5, .sc (.int .i64 0)), (8, .mapr 2), (36, Cod.enc a.tokens), (37, .sc (.int .i64 a.tokens.length)), (38, .sc (.int .i64 i))],
              objsL [.live 2 [Cod.enc a] true, .live 2 [Cod.enc b] true, .ext (.map (keysM (chgK p)) (valsM (chgK p)))], 3⟩)
            (fun xs p => a.tokens = p ++ xs) [] (.back rfl ?_) rfl ?_ ?_
          · simp +contextual only [go_sem, ↓reduceIte, Nat.reduceEqDiff, Nat.reduceAdd, Nat.reduceLeDiff, Nat.reduceLT, reduceCtorEq, List.length_map]
            exact ⟨rfl, rfl, rfl⟩
          · intro p hinv
            have hp : p = a.tokens := by rw [hinv]; simp
            subst hp
            simp +contextual only [go_sem, ↓reduceIte, Nat.reduceEqDiff, Nat.reduceAdd, Nat.reduceLeDiff, Nat.reduceLT, reduceCtorEq, k19, Int.lt_irrefl, decide_false, List.length_map]
            refine TriI.loopL hg k19 b.tokens (fun i (q : List TokD × List TokD) => ⟨slotsL [(4, .sc (.slice none 0 0)), (5, .sc (.int .i64 0)), (8, .mapr 2), (11, .own 3 0 q.2.length), (49, Cod.enc b.tokens), (50, .sc (.int .i64 b.tokens.length)), (51, .sc (.int .i64 i))],
                objsL [.live 2 [Cod.enc a] true, .live 2 [Cod.enc b] true, .ext (.map (keysM (chgK (restT q.1 a.tokens))) (valsM (chgK (restT q.1 a.tokens)))), .live 6 (q.2.map Cod.enc) true], 4⟩)
              (fun xs q => b.tokens = q.1 ++ xs ∧ q.2 = q.1.filter (chT a.tokens) ∧ q.2.length + xs.length ≤ 128) ([], []) (.ren [some 0, some 1, some 2, none] rfl rfl 3 ?_) ⟨rfl, rfl, by simpa using mb⟩ ?_ ?_
            · have hr0 : restT [] a.tokens = a.tokens := by rw [restT, List.filter_eq_self]; intro t _; rfl
              simp +contextual only [go_sem, ↓reduceIte, Nat.reduceEqDiff, Nat.reduceAdd, Nat.reduceLeDiff, Nat.reduceLT, reduceCtorEq, List.length_map, low_chg, hr0, List.map_nil, List.length_nil]
              rfl
            · intro q hinv2
              obtain ⟨p, acc⟩ := q
              obtain ⟨g1, g2, g3⟩ := hinv2
              dsimp only at g1 g2 g3 ⊢
              have hp : p = b.tokens := by rw [g1]; simp
              subst hp
              simp +contextual only [go_sem, ↓reduceIte, Nat.reduceEqDiff, Nat.reduceAdd, Nat.reduceLeDiff, Nat.reduceLT, reduceCtorEq, k19, Int.lt_irrefl, decide_false, List.length_map]
              generalize hR : restT b.tokens a.tokens = R
              have hRl : R.length ≤ 128 := by
                rw [← hR]
                exact Nat.le_trans (List.length_filter_le _ _) ma
              refine stepI_rangeM Try.underlying56 rfl (ks := keysM (chgK R)) (vs := valsM (chgK R)) (id := 2) rfl (isF_chg R) rfl rfl ?_
              simp +contextual only [go_sem, ↓reduceIte, Nat.reduceEqDiff, Nat.reduceAdd, Nat.reduceLeDiff, Nat.reduceLT, reduceCtorEq, k19]
              have hkl : (keysM (chgK R)).length = R.length := by rw [keysM_len, chgK, List.length_map]
              refine TriI.loopA hg k19 (fun p : DfL => ⟨slotsL [(5, .sc (.int .i64 0)), (11, .own 3 0 p.acc.length), (79, .ref 4 0 0)],
                  objsL [.live 2 [Cod.enc a] true, .live 2 [Cod.enc b] true, .dead, .live 6 (p.acc.map Cod.enc) true, .ext (.miter (keysM (chgK R)) (valsM (chgK R)) p.left p.last)], 5⟩)
                (fun p => p.left.Nodup ∧ (∀ j, j ∈ p.left → j < R.length) ∧ (p.acc ++ p.left.filterMap (remN R)).Perm (difT a.tokens b.tokens)) (fun p => p.left.length)
                ⟨List.range R.length, none, acc⟩ (.ren [some 0, some 1, some 2, some 3, some 4] rfl rfl 3 ?_) ⟨List.nodup_range, fun j hj => by simpa using hj, ?_⟩ ?_
              · have hkl2 : (chgK R).length = R.length := by rw [chgK, List.length_map]
                simp +contextual only [go_sem, ↓reduceIte, Nat.reduceEqDiff, Nat.reduceAdd, Nat.reduceLeDiff, Nat.reduceLT, reduceCtorEq, List.length_map, low_toks, low_chg, hkl, hkl2]
              · dsimp only
                rw [range_rem, g2, difT, hR]
              · rintro ⟨left, last, acc⟩ ⟨q1, q2, q3⟩
                dsimp only at q1 q2 q3 ⊢
                have hal : acc.length ≤ 256 := by
                  have h1 := q3.length_eq
                  have h2 := dif_len ma mb
                  rw [List.length_append] at h1
                  omega
                simp +contextual only [go_sem, ↓reduceIte, Nat.reduceEqDiff, Nat.reduceAdd, Nat.reduceLeDiff, Nat.reduceLT, reduceCtorEq, k19]
                refine stepI_nextM rfl rfl rfl (fun hd => ?_) fun j hj hjl => ?_
                · have hl0 : left = [] := List.eq_nil_iff_forall_not_mem.2 fun j hj => hd j (by rw [hkl]; exact q2 j hj) hj
                  subst hl0
                  rw [List.filterMap_nil, List.append_nil] at q3
                  have dacc : DisK acc := (dif_dis da db).perm q3.symm fun h => Ne.symm h
                  have hoa : okIds acc = true := by
                    rw [okIds, List.all_eq_true]
                    intro t ht
                    have h1 := q3.mem_iff.1 ht
                    simp only [difT, restT, List.mem_append, List.mem_filter, List.mem_map] at h1
                    rcases h1 with h1 | ⟨x, ⟨h1, _⟩, rfl⟩
                    · simpa using name_size (wb.ok t h1.1)
                    · have := name_size (wa.ok x h1)
                      exact decide_eq_true this
                  simp +contextual only [go_sem, ↓reduceIte, Nat.reduceEqDiff, Nat.reduceAdd, Nat.reduceLeDiff, Nat.reduceLT, reduceCtorEq, k19, h2]
                  refine sortToks hsort hcmp (acc := acc) rfl (by omega) hoa dacc ?_
                  have hsl : (srtT acc).length = acc.length := (sort_perm dacc).length_eq
                  have hT : ((srtT acc).map Cod.enc).take acc.length = (srtT acc).map Cod.enc := List.take_of_length_le (by simp [hsl])
                  have hfin := srt_congr (dif_dis da db) q3
                  simp +contextual only [go_sem, ↓reduceIte, Nat.reduceEqDiff, Nat.reduceAdd, Nat.reduceLeDiff, Nat.reduceLT, reduceCtorEq, k19, List.length_map, hsl, Nat.zero_add, Nat.le_refl, isF_toks, hT, true_and, and_true, decL_enc Cod.dec_enc]
                  rw [hfin]
                · have hjR : j < R.length := q2 j hj
                  have hkj : (keysM (chgK R))[j]? = some (.string (kT R[j])) := by simp [keysM, chgK, hjR]; rfl
                  have hvj : (valsM (chgK R))[j]? = some (Cod.enc R[j]) := by simp [valsM, chgK, hjR]
                  simp +contextual only [go_sem, ↓reduceIte, Nat.reduceEqDiff, Nat.reduceAdd, Nat.reduceLeDiff, Nat.reduceLT, reduceCtorEq, k19]
                  refine stepI_entryM rfl rfl hkj hvj (entry_none rfl) ?_
                  have b1 : (acc.length + 1) * 72 ≤ 68719476736 := by omega
                  have b2 : acc.length + 1 ≤ 4294967296 := by omega
                  simp +contextual only [go_sem, ↓reduceIte, Nat.reduceEqDiff, Nat.reduceAdd, Nat.reduceLeDiff, Nat.reduceLT, reduceCtorEq, k19, b1, b2, okE, List.length_map, List.drop_zero, Nat.zero_add, true_and, and_true]
                  have hpl := perm_left q1 hj
                  have hll : (left.filter fun x => decide (x ≠ j)).length < left.length := by
                    have := hpl.length_eq
                    rw [List.length_cons] at this
                    omega
                  refine ⟨⟨left.filter (fun x => decide (x ≠ j)), some j, acc ++ [remT R[j]]⟩, hll, ⟨q1.filter _, fun k hk => q2 k (List.mem_filter.1 hk).1, ?_⟩, .ren [some 0, some 1, some 2, some 8, some 4] rfl rfl 3 ?_⟩
                  · dsimp only
                    refine List.Perm.trans ?_ q3
                    rw [List.append_assoc]
                    refine List.Perm.append_left _ ?_
                    have h3 := (hpl.filterMap (remN R)).symm
                    rw [List.filterMap_cons_some (show remN R j = some (remT R[j]) by simp [remN, hjR])] at h3
                    exact h3
                  · simp +contextual only [go_sem, ↓reduceIte, Nat.reduceEqDiff, Nat.reduceAdd, Nat.reduceLeDiff, Nat.reduceLT, reduceCtorEq, List.map_append, List.map_cons, List.map_nil, List.length_append, List.length_cons, List.length_nil, List.all_append, low_toks, low_chg, Nat.zero_add]
                    rfl
            · intro i q x xs hdr hlt hx hinv2
              obtain ⟨p, acc⟩ := q
              obtain ⟨g1, g2, g3⟩ := hinv2
              dsimp only at g1 g2 g3 ⊢
              have hw := wrap_nat hlt (by omega)
              rw [List.length_cons] at g3
              have hb3 : acc.length ≤ 20000 := by omega
              have b1 : (acc.length + 1) * 72 ≤ 68719476736 := by omega
              have b2 : acc.length + 1 ≤ 4294967296 := by omega
              have hxs := name_size (wb.ok x (List.mem_of_getElem? hx))
              have hpx : hasK p (kT x) = false := by
                rw [hasK_not]
                intro t ht
                have := db
                rw [g1] at this
                unfold DisK at this
                rw [List.pairwise_append] at this
                exact this.2.2 t ht x (by simp)
              have hlk := look_rest da hpx
              have hdr1 : DisK (restT p a.tokens) := da.filter _
              have hdel : delM (chgK (restT p a.tokens)) (keyB x.id) = chgK (restT (p ++ [x]) a.tokens) := by rw [rest_app]; exact del_chg (kT x) hdr1
              rcases find_same da (x := x) with ⟨y, hy, he⟩ | ⟨hy, he⟩
              · have hlk' : lookM (chgK (restT p a.tokens)) (keyB x.id) = some y := hlk.trans hy
                have hy0 := he
                cases hh : hasT a.tokens x with
                | true =>
                  have hxy : y = x := eqT_iff.1 (he.trans hh)
                  subst hxy
                  simp +contextual only [go_sem, ↓reduceIte, Nat.reduceEqDiff, Nat.reduceAdd, Nat.reduceLeDiff, Nat.reduceLT, reduceCtorEq, k19, lt_dec hlt, hx, hw, hxs, h30, hlk', hdel, List.length_map, List.getElem?_map, Option.map_some, Int.natCast_nonneg, Int.toNat_natCast]
                  refine ⟨(p ++ [y], acc), ⟨by rw [g1]; simp, ?_, by dsimp only; omega⟩, .back rfl ?_⟩
                  · dsimp only
                    rw [List.filter_append, List.filter_cons_of_neg (by simp [chT, hh]), List.filter_nil, List.append_nil, g2]
                  · simp +contextual only [go_sem, ↓reduceIte, Nat.reduceEqDiff, Nat.reduceAdd, Nat.reduceLeDiff, Nat.reduceLT, reduceCtorEq, low_toks, low_chg]
                | false =>
                  have hne : eqT y x = false := he.trans hh
                  simp +contextual only [go_sem, ↓reduceIte, Nat.reduceEqDiff, Nat.reduceAdd, Nat.reduceLeDiff, Nat.reduceLT, reduceCtorEq, k19, lt_dec hlt, hx, hw, hxs, h30, hlk', hdel, b1, b2, okE, List.length_map, List.getElem?_map, Option.map_some, Int.natCast_nonneg, Int.toNat_natCast, List.drop_zero, Nat.zero_add, true_and, and_true]
                  refine ⟨fun _ => ⟨(p ++ [x], acc ++ [x]), ⟨by rw [g1]; simp, ?_, by simp; omega⟩, .ren [some 0, some 1, some 2, some 9] rfl rfl 3 ?_⟩, fun h => ?_⟩
                  · dsimp only
                    rw [List.filter_append, List.filter_cons_of_pos (by simp [chT, hh]), List.filter_nil, g2]
                  · simp +contextual only [go_sem, ↓reduceIte, Nat.reduceEqDiff, Nat.reduceAdd, Nat.reduceLeDiff, Nat.reduceLT, reduceCtorEq, List.map_append, List.map_cons, List.map_nil, List.length_append, List.length_cons, List.length_nil, List.all_append, low_toks, low_chg, Nat.zero_add]
                  · have h' : (!eqT y x) = false := h
                    rw [hne] at h'
                    cases h'
              · have hlk' : lookM (chgK (restT p a.tokens)) (keyB x.id) = none := hlk.trans hy
                simp +contextual only [go_sem, ↓reduceIte, Nat.reduceEqDiff, Nat.reduceAdd, Nat.reduceLeDiff, Nat.reduceLT, reduceCtorEq, k19, lt_dec hlt, hx, hw, hxs, h30, hlk', hdel, b1, b2, okE, List.length_map, List.getElem?_map, Option.map_some, Int.natCast_nonneg, Int.toNat_natCast, List.drop_zero, Nat.zero_add, true_and, and_true]
                refine ⟨(p ++ [x], acc ++ [x]), ⟨by rw [g1]; simp, ?_, by simp; omega⟩, .ren [some 0, some 1, some 2, some 9] rfl rfl 3 ?_⟩
                · dsimp only
                  rw [List.filter_append, List.filter_cons_of_pos (by simp [chT, he]), List.filter_nil, g2]
                · simp +contextual only [go_sem, ↓reduceIte, Nat.reduceEqDiff, Nat.reduceAdd, Nat.reduceLeDiff, Nat.reduceLT, reduceCtorEq, List.map_append, List.map_cons, List.map_nil, List.length_append, List.length_cons, List.length_nil, List.all_append, low_toks, low_chg, Nat.zero_add]
          · intro i p x xs hdr hlt hx hinv
            have hw := wrap_nat hlt (by omega)
            have hxs := name_size (wa.ok x (List.mem_of_getElem? hx))
            have hh : hasK p (kT x) = false := by
              rw [hasK_not]
              intro t ht
              have := da
              rw [hinv] at this
              unfold DisK at this
              rw [List.pairwise_append] at this
              exact this.2.2 t ht x (by simp)
            have hpt := putB_chg (id := 2) hh
            simp +contextual only [go_sem, ↓reduceIte, Nat.reduceEqDiff, Nat.reduceAdd, Nat.reduceLeDiff, Nat.reduceLT, reduceCtorEq, k19, lt_dec hlt, hx, hw, hxs, h30, hpt, List.getElem?_map, Option.map_some, Int.natCast_nonneg, Int.toNat_natCast]
            refine ⟨rfl, p ++ [x], by rw [hinv]; simp, .back rfl ?_⟩
            simp +contextual only [go_sem, ↓reduceIte, Nat.reduceEqDiff, Nat.reduceAdd, Nat.reduceLeDiff, Nat.reduceLT, reduceCtorEq, low_chg]
  · cases h
end Go.Proofs.Ytlkejejgaenjcaa
