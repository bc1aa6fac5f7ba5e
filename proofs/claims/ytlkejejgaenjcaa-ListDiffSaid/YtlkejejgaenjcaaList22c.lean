/- The error of a list; where a key stands; insertion. -/
import Derived.Test.YtlkejejgaenjcaaList22b
namespace Go.Proofs.Ytlkejejgaenjcaa
set_option linter.all false
open Go.Idl
set_option maxHeartbeats 4000000
set_option maxRecDepth 100000
attribute [local go_sem] agTok agLst Try.underlying3 Try.underlying5 Try.underlying9 Try.underlying4
theorem name_size {t : TokD} (h : tokS t = 0) : t.id.size ≤ 1000000 := by
  have := tok_size h
  simp only [okName, Bool.and_eq_true, decide_eq_true_eq] at this
  omega
theorem drop_pre {α : Type} {l a xs : List α} {x : α} {i : Nat} (hd : l.drop i = x :: xs) (h : l = a ++ (x :: xs)) : i = a.length := by
  have h1 := congrArg List.length hd
  have h2 := congrArg List.length h
  simp only [List.length_drop, List.length_append, List.length_cons] at h1 h2
  omega
theorem low_toks (n : Nat) (l : List TokD) : (l.map Cod.enc).all (V.low n) = true := by
  simp only [List.all_map, List.all_eq_true]
  intro x _
  rfl
theorem isF_toks (l : List TokD) : (l.map Cod.enc).all V.isF = true := by
  simp only [List.all_map, List.all_eq_true]
  intro x _
  rfl
theorem okE_toks (l : List TokD) : (l.map Cod.enc).all (okE 6) = true := by
  simp only [List.all_map, List.all_eq_true]
  intro x _
  rfl
abbrev SNum : List V → Option V := FT fun (t : Int × Int × Unit) => some (decide (t.1 ≥ t.2.1) && decide (t.1 ≤ 2147483647))
theorem con27 {Φ : Specs} (hg : Idl.Good Try.prog Φ) : Contract Try.prog 27 SNum := by
  refine conT hg k27 ic27 (by decide) fun C t r h => ?_
  obtain ⟨a, b, u⟩ := t
  cases h
  simp +contextual only [go_sem, ↓reduceIte, Nat.reduceEqDiff, Nat.reduceAdd, Nat.reduceLeDiff, Nat.reduceLT, reduceCtorEq, c27, k27]
abbrev SVal : List V → Option V := FT fun (t : TListD × Unit) => if t.1.tokens.length ≤ 1000000 then some (validL t.1) else none
theorem con12 {Φ : Specs} (hg : Idl.Good Try.prog Φ) (h25 : Φ 25 = some STok) (h26 : Φ 26 = some SByK) : Contract Try.prog 12 SVal := by
  refine conT hg k12 ic12 (by decide) fun C t r h => ?_
  obtain ⟨l, u⟩ := t
  dsimp only at h
  split at h
  · rename_i hl
    cases h
    simp +contextual only [go_sem, ↓reduceIte, Nat.reduceEqDiff, Nat.reduceAdd, Nat.reduceLeDiff, Nat.reduceLT, reduceCtorEq, c12, k12, List.length_map]
    refine ⟨fun h1 => by simp only [validL, h1, cond_true], fun h1 => ⟨fun h2 => by simp only [validL, h1, h2, cond_true, cond_false], fun h2 => ⟨fun h3 => by simp only [validL, h1, h2, h3, cond_true, cond_false], fun h3 => ?_⟩⟩⟩
    have hv : validL l = vTok none l.tokens := by simp only [validL, h1, h2, h3, cond_true, cond_false]
    rw [hv]
    refine TriI.loopL hg k12 l.tokens (fun i (_ : Unit) => ⟨slotsL [(1, .ref 0 0 0), (28, Cod.enc l.tokens), (29, .sc (.int .i64 l.tokens.length)), (30, .sc (.int .i64 i))], objsL [.live 2 [Cod.enc l] true], 1⟩)
      (fun xs _ => ∃ a, l.tokens = a ++ xs ∧ (∀ t, t ∈ a → tokS t = 0) ∧ vTok a.getLast? xs = vTok none l.tokens) () (.back rfl ?_) ⟨[], rfl, by simp, rfl⟩ ?_ ?_
    · simp +contextual only [go_sem, ↓reduceIte, Nat.reduceEqDiff, Nat.reduceAdd, Nat.reduceLeDiff, Nat.reduceLT, reduceCtorEq, List.length_map]
      rfl
    · intro _ hinv
      obtain ⟨a, g1, g2, g3⟩ := hinv
      simp +contextual only [go_sem, ↓reduceIte, Nat.reduceEqDiff, Nat.reduceAdd, Nat.reduceLeDiff, Nat.reduceLT, reduceCtorEq, k12, Int.lt_irrefl, decide_false]
      rw [← g3]
      cases a.getLast? <;> rfl
    · intro i _ x xs hdr hlt hx hinv
      have hw := wrap_nat hlt (by omega)
      obtain ⟨a, g1, g2, g3⟩ := hinv
      have hi := drop_pre hdr g1
      rw [vTok] at g3
      cases h4 : (tokS x == 0) with
      | false =>
        have h4' : (tokS x != 0) = true := by simpa using h4
        rw [h4, Bool.not_false, cond_true] at g3
        simp +contextual only [go_sem, ↓reduceIte, Nat.reduceEqDiff, Nat.reduceAdd, Nat.reduceLeDiff, Nat.reduceLT, reduceCtorEq, k12, lt_dec hlt, hx, hw, h25, h4', List.getElem?_map, Option.map_some, Int.natCast_nonneg, Int.toNat_natCast]
        exact g3
      | true =>
        have h4' : (tokS x != 0) = false := by simpa using h4
        have h5 : tokS x = 0 := by simpa using h4
        have hxs := name_size h5
        rw [h4, Bool.not_true, cond_false] at g3
        rcases Nat.eq_zero_or_pos i with h0 | hpos
        · have ha0 : a = [] := List.eq_nil_of_length_eq_zero (by omega)
          have hgt : decide ((i : Int) > 0) = false := by simp; omega
          simp +contextual only [go_sem, ↓reduceIte, Nat.reduceEqDiff, Nat.reduceAdd, Nat.reduceLeDiff, Nat.reduceLT, reduceCtorEq, k12, lt_dec hlt, hx, hw, h25, h4', hgt, List.getElem?_map, Option.map_some, Int.natCast_nonneg, Int.toNat_natCast]
          subst ha0
          have e1 : badO (([] : List TokD).getLast?) x = false := rfl
          rw [e1, cond_false] at g3
          refine ⟨rfl, (), ⟨[x], g1, by simpa using h5, g3⟩, .back rfl ?_⟩
          simp +contextual only [go_sem, ↓reduceIte, Nat.reduceEqDiff, Nat.reduceAdd, Nat.reduceLeDiff, Nat.reduceLT, reduceCtorEq, low_toks]
        · obtain ⟨q, hq⟩ : ∃ q, a.getLast? = some q := by
            cases hg : a.getLast? with
            | none => rw [List.getLast?_eq_none_iff] at hg; subst hg; simp at hi; omega
            | some q => exact ⟨q, rfl⟩
          have hgt : decide ((i : Int) > 0) = true := by simp; omega
          have hw1 : IntKind.i64.wrap ((i : Int) - 1) = ((i - 1 : Nat) : Int) := by rw [IntKind.wrap_i64]; omega
          have hq1 : l.tokens[i - 1]? = some q := by
            rw [g1, List.getElem?_append_left (by omega), hi, ← List.getLast?_eq_getElem?, hq]
          have hqs := name_size (g2 q (List.mem_of_getLast? hq))
          rw [hq] at g3
          have hc := cmpT_ge (kT q) (kT x)
          simp +contextual only [go_sem, ↓reduceIte, Nat.reduceEqDiff, Nat.reduceAdd, Nat.reduceLeDiff, Nat.reduceLT, reduceCtorEq, k12, lt_dec hlt, hx, hw, h25, h26, h4', hgt, hw1, hq1, hqs, hxs, and_self, List.getElem?_map, Option.map_some, Int.natCast_nonneg, Int.toNat_natCast]
          refine ⟨rfl, fun h => ?_, fun h => ⟨(), ⟨a ++ [x], by rw [g1]; simp, ?_, ?_⟩, .back rfl ?_⟩⟩
          · have e1 : badO (some q) x = true := by
              have h' : decide (cmpT (kT q) (kT x) ≥ 0) = true := h
              rw [hc] at h'; exact h'
            rw [e1, cond_true] at g3
            exact g3
          · intro t ht
            rcases List.mem_append.1 ht with ht | ht
            · exact g2 t ht
            · have : t = x := by simpa using ht
              rw [this]; exact h5
          · have e1 : badO (some q) x = false := by
              have h' : decide (cmpT (kT q) (kT x) ≥ 0) = false := h
              rw [hc] at h'; exact h'
            rw [e1, cond_false] at g3
            rw [← g3]; simp
          · simp +contextual only [go_sem, ↓reduceIte, Nat.reduceEqDiff, Nat.reduceAdd, Nat.reduceLeDiff, Nat.reduceLT, reduceCtorEq, low_toks]
  · cases h
theorem con13 {Φ : Specs} (hg : Idl.Good Try.prog Φ) (h28 : Φ 28 = some STok) (h29 : Φ 29 = some SKey) (h27 : Φ 27 = some SNum) : Contract Try.prog 13 SVal := by
  refine conT hg k13 ic13 (by decide) fun C t r h => ?_
  obtain ⟨l, u⟩ := t
  dsimp only at h
  split at h
  · rename_i hl
    cases h
    simp +contextual only [go_sem, ↓reduceIte, Nat.reduceEqDiff, Nat.reduceAdd, Nat.reduceLeDiff, Nat.reduceLT, reduceCtorEq, c13, k13, h27, List.length_map]
    have hn : (decide (l.version < 0) || decide (l.version > 2147483647)) = !(decide (l.version ≥ 0) && decide (l.version ≤ 2147483647)) := by
      rw [Bool.eq_iff_iff]; simp
    refine ⟨fun h1 => by rw [validL, hn, h1]; simp, fun h1 => ?_⟩
    have h1' : (decide (l.version < 0) || decide (l.version > 2147483647)) = false := by rw [hn, h1]
    refine ⟨fun h2 => by simp only [validL, h1', h2, cond_true, cond_false], fun h2 => ⟨fun h3 => by simp only [validL, h1', h2, h3, cond_true, cond_false], fun h3 => ?_⟩⟩
    have hv : validL l = vTok none l.tokens := by simp only [validL, h1', h2, h3, cond_true, cond_false]
    rw [hv]
    refine TriI.loopL hg k13 l.tokens (fun i (_ : Unit) => ⟨slotsL [(1, .ref 0 0 0), (3, .sc (.int .i64 i))], objsL [.live 2 [Cod.enc l] true], 1⟩)
      (fun xs _ => ∃ a, l.tokens = a ++ xs ∧ (∀ t, t ∈ a → tokS t = 0) ∧ vTok a.getLast? xs = vTok none l.tokens) () (.back rfl ?_) ⟨[], rfl, by simp, rfl⟩ ?_ ?_
    · simp +contextual only [go_sem, ↓reduceIte, Nat.reduceEqDiff, Nat.reduceAdd, Nat.reduceLeDiff, Nat.reduceLT, reduceCtorEq, List.length_map]
      rfl
    · intro _ hinv
      obtain ⟨a, g1, g2, g3⟩ := hinv
      simp +contextual only [go_sem, ↓reduceIte, Nat.reduceEqDiff, Nat.reduceAdd, Nat.reduceLeDiff, Nat.reduceLT, reduceCtorEq, k13, Int.lt_irrefl, decide_false, List.length_map]
      rw [← g3]
      cases a.getLast? <;> rfl
    · intro i _ x xs hdr hlt hx hinv
      have hw := wrap_nat hlt (by omega)
      obtain ⟨a, g1, g2, g3⟩ := hinv
      have hi := drop_pre hdr g1
      rw [vTok] at g3
      cases h4 : (tokS x == 0) with
      | false =>
        have h4' : (tokS x != 0) = true := by simpa using h4
        rw [h4, Bool.not_false, cond_true] at g3
        simp +contextual only [go_sem, ↓reduceIte, Nat.reduceEqDiff, Nat.reduceAdd, Nat.reduceLeDiff, Nat.reduceLT, reduceCtorEq, k13, lt_dec hlt, hx, hw, h28, h4', List.length_map, List.getElem?_map, Option.map_some, Int.natCast_nonneg, Int.toNat_natCast]
        exact g3
      | true =>
        have h4' : (tokS x != 0) = false := by simpa using h4
        have h5 : tokS x = 0 := by simpa using h4
        have hxs := name_size h5
        rw [h4, Bool.not_true, cond_false] at g3
        rcases Nat.eq_zero_or_pos i with h0 | hpos
        · have ha0 : a = [] := List.eq_nil_of_length_eq_zero (by omega)
          have hgt : decide ((i : Int) > 0) = false := by simp; omega
          simp +contextual only [go_sem, ↓reduceIte, Nat.reduceEqDiff, Nat.reduceAdd, Nat.reduceLeDiff, Nat.reduceLT, reduceCtorEq, k13, lt_dec hlt, hx, hw, h28, h4', hgt, List.length_map, List.getElem?_map, Option.map_some, Int.natCast_nonneg, Int.toNat_natCast]
          subst ha0
          have e1 : badO (([] : List TokD).getLast?) x = false := rfl
          rw [e1, cond_false] at g3
          refine ⟨rfl, (), ⟨[x], g1, by simpa using h5, g3⟩, .back rfl ?_⟩
          simp +contextual only [go_sem, ↓reduceIte, Nat.reduceEqDiff, Nat.reduceAdd, Nat.reduceLeDiff, Nat.reduceLT, reduceCtorEq, low_toks]
        · obtain ⟨q, hq⟩ : ∃ q, a.getLast? = some q := by
            cases hg : a.getLast? with
            | none => rw [List.getLast?_eq_none_iff] at hg; subst hg; simp at hi; omega
            | some q => exact ⟨q, rfl⟩
          have hgt : decide ((i : Int) > 0) = true := by simp; omega
          have hw1 : IntKind.i64.wrap ((i : Int) - 1) = ((i - 1 : Nat) : Int) := by rw [IntKind.wrap_i64]; omega
          have hq1 : l.tokens[i - 1]? = some q := by
            rw [g1, List.getElem?_append_left (by omega), hi, ← List.getLast?_eq_getElem?, hq]
          have hqs := name_size (g2 q (List.mem_of_getLast? hq))
          rw [hq] at g3
          simp +contextual only [go_sem, ↓reduceIte, Nat.reduceEqDiff, Nat.reduceAdd, Nat.reduceLeDiff, Nat.reduceLT, reduceCtorEq, k13, lt_dec hlt, hx, hw, h28, h29, h4', hgt, hw1, hq1, hqs, hxs, leq_lt, List.length_map, List.getElem?_map, Option.map_some, Int.natCast_nonneg, Int.toNat_natCast]
          refine ⟨rfl, fun h => ?_, fun h => ⟨(), ⟨a ++ [x], by rw [g1]; simp, ?_, ?_⟩, .back rfl ?_⟩⟩
          · have e1 : badO (some q) x = true := h
            rw [e1, cond_true] at g3
            exact g3
          · intro t ht
            rcases List.mem_append.1 ht with ht | ht
            · exact g2 t ht
            · have : t = x := by simpa using ht
              rw [this]; exact h5
          · have e1 : badO (some q) x = false := h
            rw [e1, cond_false] at g3
            rw [← g3]; simp
          · simp +contextual only [go_sem, ↓reduceIte, Nat.reduceEqDiff, Nat.reduceAdd, Nat.reduceLeDiff, Nat.reduceLT, reduceCtorEq, low_toks]
  · cases h

/-! ### Where a key stands -/
def idxK : List TokD → ByteArray → Nat → Int
  | [], _, _ => -1
  | x :: xs, k, i => bif decide (kT x = k) then (i : Int) else idxK xs k (i + 1)
def okIds (l : List TokD) : Bool := l.all fun t => decide (t.id.size ≤ 1000000)
theorem okIds_mem {l : List TokD} (h : okIds l = true) {t : TokD} (ht : t ∈ l) : t.id.size ≤ 1000000 := by
  rw [okIds, List.all_eq_true] at h
  simpa using h t ht
abbrev SFnd : List V → Option V := FT fun (t : List TokD × ByteArray × Unit) => if t.1.length ≤ 1000000 ∧ okIds t.1 = true then some (idxK t.1 t.2.1 0) else none
theorem con33 {Φ : Specs} (hg : Idl.Good Try.prog Φ) (h29 : Φ 29 = some SKey) : Contract Try.prog 33 SFnd := by
  refine conT hg k33 ic33 (by decide) fun C t r h => ?_
  obtain ⟨l, k, u⟩ := t
  dsimp only at h
  split at h
  · rename_i hl
    obtain ⟨hl, ho⟩ := hl
    cases h
    simp +contextual only [go_sem, ↓reduceIte, Nat.reduceEqDiff, Nat.reduceAdd, Nat.reduceLeDiff, Nat.reduceLT, reduceCtorEq, c33, k33, List.length_map]
    refine TriI.loopL hg k33 l (fun i (_ : Unit) => ⟨slotsL [(0, Cod.enc l), (1, .sc (.string k)), (5, .sc (.int .i64 i))], objsL [], 0⟩) (fun xs _ => idxK xs k (l.length - xs.length) = idxK l k 0) () (.back rfl ?_) (by rw [Nat.sub_self]) ?_ ?_
    · simp +contextual only [go_sem, ↓reduceIte, Nat.reduceEqDiff, Nat.reduceAdd, Nat.reduceLeDiff, Nat.reduceLT, reduceCtorEq]
      rfl
    · intro _ hinv
      simp +contextual only [go_sem, ↓reduceIte, Nat.reduceEqDiff, Nat.reduceAdd, Nat.reduceLeDiff, Nat.reduceLT, reduceCtorEq, k33, Int.lt_irrefl, decide_false, List.length_map]
      rw [← hinv]; rfl
    · intro i _ x xs hdr hlt hx hinv
      have hw := wrap_nat hlt (by omega)
      have hln := congrArg List.length hdr
      rw [List.length_drop, List.length_cons] at hln
      have hi : l.length - (x :: xs).length = i := by rw [List.length_cons]; omega
      rw [hi] at hinv
      have hxs := okIds_mem ho (List.mem_of_getElem? hx)
      simp +contextual only [go_sem, ↓reduceIte, Nat.reduceEqDiff, Nat.reduceAdd, Nat.reduceLeDiff, Nat.reduceLT, reduceCtorEq, k33, lt_dec hlt, hx, hw, hxs, h29, List.length_map, List.getElem?_map, Option.map_some, Int.natCast_nonneg, Int.toNat_natCast]
      have hn : idxK (x :: xs) k i = bif decide (kT x = k) then (i : Int) else idxK xs k (i + 1) := rfl
      rw [hn] at hinv
      refine ⟨fun h => ?_, fun h => ⟨(), ?_, .back rfl ?_⟩⟩
      · have h' : decide (kT x = k) = true := h
        rw [h', cond_true] at hinv
        exact hinv
      · have h' : decide (kT x = k) = false := h
        rw [h', cond_false] at hinv
        show idxK xs k (l.length - xs.length) = _
        rw [show l.length - xs.length = i + 1 by omega, hinv]
      · simp +contextual only [go_sem, ↓reduceIte, Nat.reduceEqDiff, Nat.reduceAdd, Nat.reduceLeDiff, Nat.reduceLT, reduceCtorEq]
  · cases h
end Go.Proofs.Ytlkejejgaenjcaa
