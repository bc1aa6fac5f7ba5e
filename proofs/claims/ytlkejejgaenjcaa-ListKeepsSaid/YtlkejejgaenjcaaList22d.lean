/- Insertion; equal lists. -/
import Derived.Test.YtlkejejgaenjcaaList22c
namespace Go.Proofs.Ytlkejejgaenjcaa
set_option linter.all false
open Go.Idl
set_option maxHeartbeats 4000000
set_option maxRecDepth 100000
theorem eqTok : eqInfo Try.prog 43 = some [.s, .s, .s, .i .i64, .i .i64, .i .i64] := by kernel_rfl
attribute [local go_sem] eqTok agTok agLst Try.underlying3 Try.underlying5 Try.underlying9 Try.underlying4
theorem idxK_find (k : ByteArray) : ∀ (l : List TokD) (i : Nat), (idxK l k i = -1 ∧ ∀ t, t ∈ l → kT t ≠ k) ∨ ∃ j : Nat, i ≤ j ∧ idxK l k i = (j : Int) ∧ ∃ t, l[j - i]? = some t ∧ kT t = k
  | [], i => .inl ⟨rfl, fun t ht => by cases ht⟩
  | x :: l, i => by
    by_cases h : kT x = k
    · refine .inr ⟨i, Nat.le_refl _, by simp [idxK, h], x, by simp, h⟩
    · have hn : idxK (x :: l) k i = idxK l k (i + 1) := by simp [idxK, h]
      rw [hn]
      rcases idxK_find k l (i + 1) with ⟨h1, h2⟩ | ⟨j, h1, h2, t, h3, h4⟩
      · refine .inl ⟨h1, fun t ht => ?_⟩
        rcases List.mem_cons.1 ht with rfl | ht
        · exact h
        · exact h2 t ht
      · refine .inr ⟨j, by omega, h2, t, ?_, h4⟩
        rw [show j - i = (j - (i + 1)) + 1 by omega]
        simpa using h3
def hasK (l : List TokD) (k : ByteArray) : Bool := l.any fun t => decide (kT t = k)
theorem hasK_iff {l : List TokD} {k : ByteArray} : hasK l k = true ↔ ∃ t, t ∈ l ∧ kT t = k := by simp [hasK]
theorem hasK_not {l : List TokD} {k : ByteArray} : hasK l k = false ↔ ∀ t, t ∈ l → kT t ≠ k := by simp [hasK]
theorem idxK_ge (l : List TokD) (k : ByteArray) : decide (idxK l k 0 ≥ 0) = hasK l k := by
  rcases idxK_find k l 0 with ⟨h1, h2⟩ | ⟨j, _, h2, t, h3, h4⟩
  · rw [h1, (hasK_not).2 h2]; rfl
  · rw [h2, hasK_iff.2 ⟨t, List.mem_of_getElem? h3, h4⟩]; simp
theorem idxK_lt (l : List TokD) (k : ByteArray) : decide (idxK l k 0 < 0) = !hasK l k := by
  rw [← idxK_ge, Bool.eq_iff_iff]; simp
abbrev SIns : List V → Option V := FT fun (t : List TokD × TokD × Unit) => if t.1.length ≤ 10000 ∧ okIds t.1 = true ∧ t.2.1.id.size ≤ 1000000 then some (insK t.1 t.2.1) else none
def lowsK (x : TokD) (t : TokD) : Bool := ltS (kT t) (kT x)
def upsK (x : TokD) (t : TokD) : Bool := ltS (kT x) (kT t)
theorem con34 {Φ : Specs} (hg : Idl.Good Try.prog Φ) (h29 : Φ 29 = some SKey) : Contract Try.prog 34 SIns := by
  refine conT hg k34 ic34 (by decide) fun C t r h => ?_
  obtain ⟨l, x, u⟩ := t
  dsimp only at h
  split at h
  · rename_i hl
    obtain ⟨hl, ho, hxs⟩ := hl
    cases h
    simp +contextual only [go_sem, ↓reduceIte, Nat.reduceEqDiff, Nat.reduceAdd, Nat.reduceLeDiff, Nat.reduceLT, reduceCtorEq, c34, k34, List.length_map]
    refine TriI.loopL hg k34 l (fun i (a : List TokD) => ⟨slotsL [(0, Cod.enc l), (3, .ref 0 0 0), (5, .own 1 0 a.length), (6, .sc (.int .i64 i))], objsL [.live 6 [Cod.enc x] true, .live 6 (a.map Cod.enc) true], 2⟩)
      (fun xs a => l.filter (lowsK x) = a ++ xs.filter (lowsK x) ∧ a.length + xs.length ≤ 10000) [] (.ren [some 0, none] rfl rfl 1 ?_) ⟨rfl, by simpa using hl⟩ ?_ ?_
    · simp +contextual only [go_sem, ↓reduceIte, Nat.reduceEqDiff, Nat.reduceAdd, Nat.reduceLeDiff, Nat.reduceLT, reduceCtorEq, List.length_map, List.map_nil, List.length_nil]
      rfl
    · intro a hinv
      obtain ⟨g1, g2⟩ := hinv
      rw [List.filter_nil, List.append_nil] at g1
      rw [List.length_nil, Nat.add_zero] at g2
      have b1 : (a.length + 1) * 72 ≤ 68719476736 := by omega
      have b2 : a.length + 1 ≤ 4294967296 := by omega
      simp +contextual only [go_sem, ↓reduceIte, Nat.reduceEqDiff, Nat.reduceAdd, Nat.reduceLeDiff, Nat.reduceLT, reduceCtorEq, k34, Int.lt_irrefl, decide_false, b1, b2, okE, List.length_map, List.drop_zero, Nat.zero_add, true_and, and_true]
      refine TriI.loopL hg k34 l (fun i (b : List TokD) => ⟨slotsL [(0, Cod.enc l), (3, .ref 0 0 0), (5, .own 1 0 b.length), (7, .sc (.int .i64 i))], objsL [.live 6 [Cod.enc x] true, .live 6 (b.map Cod.enc) true], 2⟩)
        (fun xs b => ∃ c, b = a ++ [x] ++ c ∧ l.filter (upsK x) = c ++ xs.filter (upsK x) ∧ c.length + xs.length ≤ 10000) (a ++ [x]) (.ren [some 0, some 3] rfl rfl 1 ?_) ⟨[], by simp, rfl, by simpa using hl⟩ ?_ ?_
      · simp +contextual only [go_sem, ↓reduceIte, Nat.reduceEqDiff, Nat.reduceAdd, Nat.reduceLeDiff, Nat.reduceLT, reduceCtorEq, List.length_map, List.map_append, List.map_cons, List.map_nil, List.length_append, List.length_cons, List.length_nil, List.all_append, low_toks, Nat.zero_add]
        rfl
      · intro b hinv2
        obtain ⟨c, rfl, g3, g4⟩ := hinv2
        rw [List.filter_nil, List.append_nil] at g3
        have hT : ((a ++ [x] ++ c).map Cod.enc).take (a ++ [x] ++ c).length = (a ++ [x] ++ c).map Cod.enc := List.take_of_length_le (by simp)
        have hins : insK l x = a ++ [x] ++ c := by
          unfold insK
          rw [show l.filter (fun t => ltS (kT t) (kT x)) = a from g1, show l.filter (fun t => ltS (kT x) (kT t)) = c from g3]
        simp +contextual only [go_sem, ↓reduceIte, Nat.reduceEqDiff, Nat.reduceAdd, Nat.reduceLeDiff, Nat.reduceLT, reduceCtorEq, k34, Int.lt_irrefl, decide_false, List.length_map, Nat.zero_add, Nat.le_refl, isF_toks, hT, decL_enc Cod.dec_enc, hins, true_and, and_true]
      · intro i b y xs hdr hlt hy hinv2
        obtain ⟨c, rfl, g3, g4⟩ := hinv2
        have hw := wrap_nat hlt (by omega)
        rw [List.length_cons] at g4
        have hbl : (a ++ [x] ++ c).length = a.length + 1 + c.length := by simp; omega
        have hys := okIds_mem ho (List.mem_of_getElem? hy)
        generalize hb : a ++ [x] ++ c = b at hbl
        have hb3 : b.length ≤ 20000 := by omega
        clear hbl
        have b1 : (b.length + 1) * 72 ≤ 68719476736 := by omega
        have b2 : b.length + 1 ≤ 4294967296 := by omega
        simp +contextual only [go_sem, ↓reduceIte, Nat.reduceEqDiff, Nat.reduceAdd, Nat.reduceLeDiff, Nat.reduceLT, reduceCtorEq, k34, lt_dec hlt, hy, hw, hys, hxs, b1, b2, okE, h29, gtr_lt, List.length_map, List.getElem?_map, Option.map_some, Int.natCast_nonneg, Int.toNat_natCast, List.drop_zero, Nat.zero_add, true_and, and_true]
        refine ⟨rfl, fun h => ⟨b ++ [y], ⟨c ++ [y], by rw [← hb]; simp, ?_, by simp; omega⟩, .ren [some 0, some 13] rfl rfl 1 ?_⟩, fun h => ⟨b, ⟨c, hb.symm, ?_, by omega⟩, .back rfl ?_⟩⟩
        · have h' : upsK x y = true := h
          rw [g3, List.filter_cons_of_pos h']; simp
        · simp +contextual only [go_sem, ↓reduceIte, Nat.reduceEqDiff, Nat.reduceAdd, Nat.reduceLeDiff, Nat.reduceLT, reduceCtorEq, List.map_append, List.map_cons, List.map_nil, List.length_append, List.length_cons, List.length_nil, List.all_append, low_toks, Nat.zero_add]
        · have h' : upsK x y = false := h
          rw [g3, List.filter_cons_of_neg (by simp [h'])]
        · simp +contextual only [go_sem, ↓reduceIte, Nat.reduceEqDiff, Nat.reduceAdd, Nat.reduceLeDiff, Nat.reduceLT, reduceCtorEq, low_toks]
    · intro i a y xs hdr hlt hy hinv
      obtain ⟨g1, g2⟩ := hinv
      have hw := wrap_nat hlt (by omega)
      rw [List.length_cons] at g2
      have b1 : (a.length + 1) * 72 ≤ 68719476736 := by omega
      have b2 : a.length + 1 ≤ 4294967296 := by omega
      have hys := okIds_mem ho (List.mem_of_getElem? hy)
      simp +contextual only [go_sem, ↓reduceIte, Nat.reduceEqDiff, Nat.reduceAdd, Nat.reduceLeDiff, Nat.reduceLT, reduceCtorEq, k34, lt_dec hlt, hy, hw, hys, hxs, b1, b2, okE, h29, List.length_map, List.getElem?_map, Option.map_some, Int.natCast_nonneg, Int.toNat_natCast, List.drop_zero, Nat.zero_add, true_and, and_true]
      refine ⟨rfl, fun h => ⟨a ++ [y], ⟨?_, by simp; omega⟩, .ren [some 0, some 13] rfl rfl 1 ?_⟩, fun h => ⟨a, ⟨?_, by omega⟩, .back rfl ?_⟩⟩
      · have h' : lowsK x y = true := h
        rw [g1, List.filter_cons_of_pos h']; simp
      · simp +contextual only [go_sem, ↓reduceIte, Nat.reduceEqDiff, Nat.reduceAdd, Nat.reduceLeDiff, Nat.reduceLT, reduceCtorEq, List.map_append, List.map_cons, List.map_nil, List.length_append, List.length_cons, List.length_nil, List.all_append, low_toks, Nat.zero_add]
      · have h' : lowsK x y = false := h
        rw [g1, List.filter_cons_of_neg (by simp [h'])]
      · simp +contextual only [go_sem, ↓reduceIte, Nat.reduceEqDiff, Nat.reduceAdd, Nat.reduceLeDiff, Nat.reduceLT, reduceCtorEq, low_toks]
  · cases h
end Go.Proofs.Ytlkejejgaenjcaa
