/- Records of all transactions: the program's walk. -/
import Derived.Test.YtoccifhckpjfaaaRec37q
namespace Go.Proofs.Ytoccifhckpjfaaa
set_option linter.all false
open Go.Idl
set_option maxHeartbeats 16000000
set_option maxRecDepth 100000
attribute [local go_sem] agRec agEv37 Try.underlying3 Try.underlying5 Try.underlying9 Try.underlying4 Try.underlying30 Try.underlying22 Try.underlying25
def okR (r : RecD × Int) : List RecD := bif r.2 == 0 then [r.1] else []
def allL (l : List EvD) (m : Int) : List RecD := match l with
  | [] => []
  | x :: l => okR (makeS (x :: l.takeWhile (one x)) m) ++ allL (l.dropWhile (one x)) m
termination_by l.length
decreasing_by
  have := (List.dropWhile_sublist (one x) (l := l)).length_le
  simp; omega
theorem allL_cons (x : EvD) (l : List EvD) (m : Int) : allL (x :: l) m = okR (makeS (x :: l.takeWhile (one x)) m) ++ allL (l.dropWhile (one x)) m := by rw [allL]
theorem isF_recs (l : List RecD) : (l.map Cod.enc).all V.isF = true := by
  simp only [List.all_map, List.all_eq_true]
  intro x _
  rfl
theorem low_recs (n : Nat) (l : List RecD) : (l.map Cod.enc).all (V.low n) = true := by
  simp only [List.all_map, List.all_eq_true]
  intro x _
  rfl
theorem okR_len (r : RecD × Int) : (okR r).length ≤ 1 := by unfold okR; cases r.2 == 0 <;> simp
abbrev SAll : List V → Option V := FT fun (t : List EvD × Int × Unit) => if t.1.length ≤ 100000 then some (allL t.1 t.2.1) else none
theorem con13 {Φ : Specs} (hg : Idl.Good Try.prog Φ) (h9 : Φ 9 = some SMake) : Contract Try.prog 13 SAll := by
  refine conT hg k13 ic13 (by decide) fun C t r h => ?_
  obtain ⟨l, m, u⟩ := t
  dsimp only at h
  by_cases hl : l.length ≤ 100000
  case neg => rw [if_neg hl] at h; cases h
  rw [if_pos hl] at h
  cases h
  simp +contextual only [go_sem, ↓reduceIte, Nat.reduceEqDiff, Nat.reduceAdd, Nat.reduceLeDiff, Nat.reduceLT, reduceCtorEq, c13, k13]
  refine TriI.loopA hg k13 (fun p : Nat × List RecD => ⟨slotsL [(0, Cod.enc l), (1, .sc (.int .i64 m)), (4, .sc (.slice none 0 0)), (5, .own 0 0 p.2.length), (6, .sc (.int .i64 (p.1 : Nat)))], objsL [.live 11 (p.2.map Cod.enc) true], 1⟩)
    (fun p => p.1 ≤ l.length ∧ p.2.length ≤ p.1 ∧ p.2 ++ allL (l.drop p.1) m = allL l m) (fun p => l.length - p.1) (0, []) (.ren [none] rfl rfl 0 ?_) ⟨Nat.zero_le _, Nat.le_refl _, by rw [List.drop_zero]; rfl⟩ ?_
  · simp +contextual only [go_sem, ↓reduceIte, Nat.reduceEqDiff, Nat.reduceAdd, Nat.reduceLeDiff, Nat.reduceLT, reduceCtorEq, List.length_nil, List.map_nil]
    rfl
  · rintro ⟨i, acc⟩ ⟨h1, h2, h3⟩
    dsimp only at h1 h2 h3 ⊢
    rcases Nat.lt_or_ge i l.length with hi | hi
    · have hdi : decide (((i : Nat) : Int) < ((l.length : Nat) : Int)) = true := by simp; omega
      obtain ⟨x, hx⟩ : ∃ x, l[i]? = some x := ⟨l[i], by simp⟩
      have hdx : l.drop i = x :: l.drop (i + 1) := by
        obtain ⟨a1, a2⟩ := List.getElem?_eq_some_iff.1 hx
        rw [List.drop_eq_getElem_cons a1, a2]
      obtain ⟨T, hT⟩ : ∃ T, T = (l.drop (i + 1)).takeWhile (one x) := ⟨_, rfl⟩
      obtain ⟨R, hR⟩ : ∃ R, R = (l.drop (i + 1)).dropWhile (one x) := ⟨_, rfl⟩
      have hTR : l.drop (i + 1) = T ++ R := by rw [hT, hR, List.takeWhile_append_dropWhile]
      have hal : allL (l.drop i) m = okR (makeS (x :: T) m) ++ allL R m := by rw [hdx, allL_cons, ← hT, ← hR]
      have hlen : i + 1 + T.length + R.length = l.length := by
        have := congrArg List.length hTR; simp at this; omega
      have hRd : R = l.drop (i + 1 + T.length) := by
        rw [show i + 1 + T.length = (i + 1) + T.length from rfl, ← List.drop_drop, hTR, List.drop_left]
      have hTT : ∀ y, y ∈ T → one x y = true := fun y hy => by
        have h := List.all_takeWhile (p := one x) (l := l.drop (i + 1))
        rw [← hT] at h
        exact List.all_eq_true.1 h y hy
      have hRh : ∀ y, l[i + 1 + T.length]? = some y → one x y = false := fun y hy => by
        have hR0 : R.head? = some y := by rw [hRd, List.head?_drop]; exact hy
        have := List.head?_dropWhile_not (one x) (l.drop (i + 1))
        rw [← hR, hR0] at this
        simpa using this
      have hat : ∀ d, d ≤ T.length → ∃ y, l[i + d]? = some y ∧ one x y = true := fun d hd => by
        rcases Nat.eq_zero_or_pos d with h0 | h0
        · subst h0
          exact ⟨x, by simpa using hx, by simp [one]⟩
        · obtain ⟨y, hy⟩ : ∃ y, T[d - 1]? = some y := ⟨T[d - 1]'(by omega), by simp⟩
          refine ⟨y, ?_, hTT y (List.mem_of_getElem? hy)⟩
          have : (l.drop (i + 1))[d - 1]? = some y := by rw [hTR, List.getElem?_append_left (by omega)]; exact hy
          rw [List.getElem?_drop] at this
          rw [← this]; congr 1; omega
      simp +contextual only [go_sem, ↓reduceIte, Nat.reduceEqDiff, Nat.reduceAdd, Nat.reduceLeDiff, Nat.reduceLT, reduceCtorEq, k13, hdi, List.length_map]
      refine TriI.loopA hg k13 (fun d : Nat => ⟨slotsL [(0, Cod.enc l), (1, .sc (.int .i64 m)), (4, .sc (.slice none 0 0)), (5, .own 0 0 acc.length), (6, .sc (.int .i64 (i : Nat))), (7, .sc (.int .i64 (i + d : Nat)))], objsL [.live 11 (acc.map Cod.enc) true], 1⟩)
        (fun d => d ≤ T.length + 1) (fun d => T.length + 1 - d) 0 (.back rfl ?_) (Nat.zero_le _) ?_
      · simp +contextual only [go_sem, ↓reduceIte, Nat.reduceEqDiff, Nat.reduceAdd, Nat.reduceLeDiff, Nat.reduceLT, reduceCtorEq, Nat.add_zero, low_recs]
      · rintro d hd
        rcases Nat.lt_or_ge T.length d with hdT | hdT
        · have hde : d = T.length + 1 := by omega
          subst hde
          obtain ⟨j, hj⟩ : ∃ j, j = i + (T.length + 1) := ⟨_, rfl⟩
          have hjl : j ≤ l.length := by omega
          have hij : i ≤ j := by omega
          have hsl : List.drop i (List.take j (l.map Cod.enc)) = (x :: T).map Cod.enc := by
            rw [← List.map_take, ← List.map_drop]
            congr 1
            rw [List.drop_take, hdx, hTR]
            rw [show j - i = T.length + 1 by omega, List.take_succ_cons, List.take_left]
          have hsl2 : (x :: T).length ≤ 100000 := by simp; omega
          have hlenT : j - i = (x :: T).length := by simp; omega
          have hGl : (x :: T).length = j - i := hlenT.symm
          have hnext : (acc ++ okR (makeS (x :: T) m)) ++ allL (l.drop j) m = allL l m := by
            rw [← h3, hal, List.append_assoc, hRd, show i + 1 + T.length = j by omega]
          have hokl := okR_len (makeS (x :: T) m)
          have b3 : (acc.length + 1) * 120 ≤ 68719476736 := by omega
          have b4 : acc.length + 1 ≤ 4294967296 := by omega
          generalize hres : makeS (x :: T) m = res at *
          generalize x :: T = G at *
          rw [← hj]
          rcases Nat.lt_or_ge j l.length with hjlt | hjge
          · have hdj : decide (((j : Nat) : Int) < ((l.length : Nat) : Int)) = true := by simp; omega
            obtain ⟨y, hy⟩ : ∃ y, l[j]? = some y := ⟨l[j], by simp⟩
            have hyo := hRh y (by rw [show i + 1 + T.length = j by omega]; exact hy)
            simp only [one, Bool.and_eq_false_iff, decide_eq_false_iff_not] at hyo
            cases k1 : decide (y.station = x.station)
            · have := hyo
              cases he : (res.2 == 0)
              · have hk : okR res = [] := by rw [okR, he]; rfl
                rw [hk, List.append_nil] at hnext
                simp +contextual only [go_sem, ↓reduceIte, Nat.reduceEqDiff, Nat.reduceAdd, Nat.reduceLeDiff, Nat.reduceLT, reduceCtorEq, k13, hdj, hx, hy, k1, he, hjl, hij, hsl, hsl2, hres, b3, b4, okE, h9, List.length_map, List.getElem?_map, Option.map_some, Option.map_none, Int.natCast_nonneg, Int.toNat_natCast, Nat.zero_add, List.drop_zero, true_and, and_true]
                exact ⟨by rfl, (j, acc), by dsimp only; omega, ⟨hjl, by dsimp only; omega, hnext⟩, .back rfl (by simp +contextual only [go_sem, ↓reduceIte, Nat.reduceEqDiff, Nat.reduceAdd, Nat.reduceLeDiff, Nat.reduceLT, reduceCtorEq, low_recs])⟩
              · have hk : okR res = [res.1] := by rw [okR, he]; rfl
                rw [hk] at hnext
                simp +contextual only [go_sem, ↓reduceIte, Nat.reduceEqDiff, Nat.reduceAdd, Nat.reduceLeDiff, Nat.reduceLT, reduceCtorEq, k13, hdj, hx, hy, k1, he, hjl, hij, hsl, hsl2, hres, b3, b4, okE, h9, List.length_map, List.getElem?_map, Option.map_some, Option.map_none, Int.natCast_nonneg, Int.toNat_natCast, Nat.zero_add, List.drop_zero, true_and, and_true]
                exact ⟨by rfl, (j, acc ++ [res.1]), by dsimp only; omega, ⟨hjl, by simp; omega, hnext⟩, .ren [some 34] rfl rfl 0 (by simp +contextual only [go_sem, ↓reduceIte, Nat.reduceEqDiff, Nat.reduceAdd, Nat.reduceLeDiff, Nat.reduceLT, reduceCtorEq, List.map_append, List.map_cons, List.map_nil, List.length_append, List.length_cons, List.length_nil, List.all_append, low_recs, Nat.zero_add])⟩
            · have k2 : decide (y.txn = x.txn) = false := by
                have h1 : y.station = x.station := of_decide_eq_true k1
                exact decide_eq_false fun h2 => hyo.elim (fun h => h h1.symm) (fun h => h h2.symm)
              cases he : (res.2 == 0)
              · have hk : okR res = [] := by rw [okR, he]; rfl
                rw [hk, List.append_nil] at hnext
                simp +contextual only [go_sem, ↓reduceIte, Nat.reduceEqDiff, Nat.reduceAdd, Nat.reduceLeDiff, Nat.reduceLT, reduceCtorEq, k13, hdj, hx, hy, k1, k2, he, hjl, hij, hsl, hsl2, hres, b3, b4, okE, h9, List.length_map, List.getElem?_map, Option.map_some, Option.map_none, Int.natCast_nonneg, Int.toNat_natCast, Nat.zero_add, List.drop_zero, true_and, and_true]
                exact ⟨by rfl, (j, acc), by dsimp only; omega, ⟨hjl, by dsimp only; omega, hnext⟩, .back rfl (by simp +contextual only [go_sem, ↓reduceIte, Nat.reduceEqDiff, Nat.reduceAdd, Nat.reduceLeDiff, Nat.reduceLT, reduceCtorEq, low_recs])⟩
              · have hk : okR res = [res.1] := by rw [okR, he]; rfl
                rw [hk] at hnext
                simp +contextual only [go_sem, ↓reduceIte, Nat.reduceEqDiff, Nat.reduceAdd, Nat.reduceLeDiff, Nat.reduceLT, reduceCtorEq, k13, hdj, hx, hy, k1, k2, he, hjl, hij, hsl, hsl2, hres, b3, b4, okE, h9, List.length_map, List.getElem?_map, Option.map_some, Option.map_none, Int.natCast_nonneg, Int.toNat_natCast, Nat.zero_add, List.drop_zero, true_and, and_true]
                exact ⟨by rfl, (j, acc ++ [res.1]), by dsimp only; omega, ⟨hjl, by simp; omega, hnext⟩, .ren [some 34] rfl rfl 0 (by simp +contextual only [go_sem, ↓reduceIte, Nat.reduceEqDiff, Nat.reduceAdd, Nat.reduceLeDiff, Nat.reduceLT, reduceCtorEq, List.map_append, List.map_cons, List.map_nil, List.length_append, List.length_cons, List.length_nil, List.all_append, low_recs, Nat.zero_add])⟩
          · have hdj : decide (((j : Nat) : Int) < ((l.length : Nat) : Int)) = false := by simp; omega
            cases he : (res.2 == 0)
            · have hk : okR res = [] := by rw [okR, he]; rfl
              rw [hk, List.append_nil] at hnext
              simp +contextual only [go_sem, ↓reduceIte, Nat.reduceEqDiff, Nat.reduceAdd, Nat.reduceLeDiff, Nat.reduceLT, reduceCtorEq, k13, hdj, he, hjl, hij, hsl, hsl2, hres, b3, b4, okE, h9, List.length_map, List.getElem?_map, Option.map_some, Option.map_none, Int.natCast_nonneg, Int.toNat_natCast, Nat.zero_add, List.drop_zero, true_and, and_true]
              exact ⟨by rfl, (j, acc), by dsimp only; omega, ⟨hjl, by dsimp only; omega, hnext⟩, .back rfl (by simp +contextual only [go_sem, ↓reduceIte, Nat.reduceEqDiff, Nat.reduceAdd, Nat.reduceLeDiff, Nat.reduceLT, reduceCtorEq, low_recs])⟩
            · have hk : okR res = [res.1] := by rw [okR, he]; rfl
              rw [hk] at hnext
              simp +contextual only [go_sem, ↓reduceIte, Nat.reduceEqDiff, Nat.reduceAdd, Nat.reduceLeDiff, Nat.reduceLT, reduceCtorEq, k13, hdj, he, hjl, hij, hsl, hsl2, hres, b3, b4, okE, h9, List.length_map, List.getElem?_map, Option.map_some, Option.map_none, Int.natCast_nonneg, Int.toNat_natCast, Nat.zero_add, List.drop_zero, true_and, and_true]
              exact ⟨by rfl, (j, acc ++ [res.1]), by dsimp only; omega, ⟨hjl, by simp; omega, hnext⟩, .ren [some 34] rfl rfl 0 (by simp +contextual only [go_sem, ↓reduceIte, Nat.reduceEqDiff, Nat.reduceAdd, Nat.reduceLeDiff, Nat.reduceLT, reduceCtorEq, List.map_append, List.map_cons, List.map_nil, List.length_append, List.length_cons, List.length_nil, List.all_append, low_recs, Nat.zero_add])⟩
        · obtain ⟨y, hy, hyo⟩ := hat d hdT
          have hdl : decide (((i + d : Nat) : Int) < ((l.length : Nat) : Int)) = true := by simp; omega
          simp only [one, Bool.and_eq_true, decide_eq_true_eq] at hyo
          have k1 : decide (y.station = x.station) = true := decide_eq_true hyo.1.symm
          have k2 : decide (y.txn = x.txn) = true := decide_eq_true hyo.2.symm
          have wd := wrapP (i := i + d) (by omega)
          simp +contextual only [go_sem, ↓reduceIte, Nat.reduceEqDiff, Nat.reduceAdd, Nat.reduceLeDiff, Nat.reduceLT, reduceCtorEq, k13, hdl, hx, hy, k1, k2, wd, List.length_map, List.getElem?_map, Option.map_some, Int.natCast_nonneg, Int.toNat_natCast]
          exact ⟨by rfl, d + 1, by dsimp only; omega, by omega, .back rfl (by simp +contextual only [go_sem, ↓reduceIte, Nat.reduceEqDiff, Nat.reduceAdd, Nat.reduceLeDiff, Nat.reduceLT, reduceCtorEq, low_recs, Nat.add_assoc])⟩
    · have hdi : decide (((i : Nat) : Int) < ((l.length : Nat) : Int)) = false := by simp; omega
      have hnil : l.drop i = [] := by simp; omega
      have hacc : allL l m = acc := by rw [← h3, hnil, allL, List.append_nil]
      have hTk : (acc.map Cod.enc).take acc.length = acc.map Cod.enc := List.take_of_length_le (by simp)
      rw [hacc]
      simp +contextual only [go_sem, ↓reduceIte, Nat.reduceEqDiff, Nat.reduceAdd, Nat.reduceLeDiff, Nat.reduceLT, reduceCtorEq, k13, hdi, isF_recs, hTk, decL_enc Cod.dec_enc, List.length_map, Nat.zero_add, Nat.le_refl, List.drop_zero]
end Go.Proofs.Ytoccifhckpjfaaa
