/- Records, the reference: readings of two lists. -/
import Derived.Test.YtoccifhckpjfaaaRec37j
namespace Go.Proofs.Ytoccifhckpjfaaa
set_option linter.all false
open Go.Idl
set_option maxHeartbeats 16000000
set_option maxRecDepth 100000
attribute [local go_sem] eqRdg Try.underlying3 Try.underlying5 Try.underlying9 Try.underlying4 Try.underlying30 Try.underlying22 Try.underlying25
theorem con47 {Φ : Specs} (hg : Idl.Good Try.prog Φ) (h57 : Φ 57 = some SAsc) : Contract Try.prog 47 SMrg := by
  refine conT hg k47 ic47 (by decide) fun C t r h => ?_
  obtain ⟨a, b, u⟩ := t
  dsimp only at h
  by_cases hl : a.length ≤ 1000000 ∧ b.length ≤ 1000000
  case neg => rw [if_neg hl] at h; cases h
  rw [if_pos hl] at h
  obtain ⟨hla, hlb⟩ := hl
  cases h
  have la : a.length ≤ 1000000000 := by omega
  have lb : b.length ≤ 1000000000 := by omega
  cases ha : asc a
  · have hm : mrgS a b = ([], 1) := by rw [mrgS, ha]; rfl
    rw [hm]
    simp +contextual only [go_sem, ↓reduceIte, Nat.reduceEqDiff, Nat.reduceAdd, Nat.reduceLeDiff, Nat.reduceLT, reduceCtorEq, c47, k47, h57, la, lb, ha, Bool.not_false]
  cases hb : asc b
  · have hm : mrgS a b = ([], 1) := by rw [mrgS, ha, hb]; rfl
    rw [hm]
    simp +contextual only [go_sem, ↓reduceIte, Nat.reduceEqDiff, Nat.reduceAdd, Nat.reduceLeDiff, Nat.reduceLT, reduceCtorEq, c47, k47, h57, la, lb, ha, hb, Bool.not_false, Bool.not_true]
  have hm : mrgS a b = match mrgL a b with
    | none => ([], 23)
    | some l => bif decide (l.length > 1024) then ([], 3) else (l, 0) := by rw [mrgS, ha, hb]; rfl
  rw [hm]
  simp +contextual only [go_sem, ↓reduceIte, Nat.reduceEqDiff, Nat.reduceAdd, Nat.reduceLeDiff, Nat.reduceLT, reduceCtorEq, c47, k47, h57, la, lb, ha, hb, Bool.not_true]
  refine TriI.loopA hg k47 (fun p : Nat × Nat × List Rdg => ⟨slotsL [(0, Cod.enc a), (1, Cod.enc b), (4, .sc (.slice none 0 0)), (5, .sc (.int .i64 0)), (6, .own 0 0 p.2.2.length), (7, .sc (.int .i64 (p.1 : Nat))), (8, .sc (.int .i64 (p.2.1 : Nat)))], objsL [.live 2 (p.2.2.map Cod.enc) true], 1⟩)
    (fun p => p.1 ≤ a.length ∧ p.2.1 ≤ b.length ∧ p.2.2.length ≤ p.1 + p.2.1 ∧ addM p.2.2 (mrgL (a.drop p.1) (b.drop p.2.1)) = mrgL a b) (fun p => a.length + b.length - (p.1 + p.2.1)) (0, 0, []) (.ren [none] rfl rfl 0 ?_) ⟨Nat.zero_le _, Nat.zero_le _, Nat.zero_le _, ?_⟩ ?_
  · simp +contextual only [go_sem, ↓reduceIte, Nat.reduceEqDiff, Nat.reduceAdd, Nat.reduceLeDiff, Nat.reduceLT, reduceCtorEq, List.length_nil, List.map_nil]
    rfl
  · rw [List.drop_zero, List.drop_zero]
    cases mrgL a b <;> rfl
  · rintro ⟨i, k, p⟩ ⟨g1, g2, g3, g4⟩
    dsimp only at g1 g2 g3 g4 ⊢
    have b1 : (p.length + 1) * 16 ≤ 68719476736 := by omega
    have b2 : p.length + 1 ≤ 4294967296 := by omega
    rcases Nat.lt_or_ge i a.length with hi | hi
    · have wi := wrap_nat hi (by omega)
      have hdi : decide (((i : Nat) : Int) < ((a.length : Nat) : Int)) = true := by simp; omega
      have hx : a[i]? = some a[i] := by simp
      have da : a.drop i = a[i] :: a.drop (i + 1) := by rw [List.drop_eq_getElem_cons hi]
      rcases Nat.lt_or_ge k b.length with hk | hk
      · have wk := wrap_nat hk (by omega)
        have hkb : (((k : Nat) : Int) == ((b.length : Nat) : Int)) = false := by simp; omega
        have hy : b[k]? = some b[k] := by simp
        have db : b.drop k = b[k] :: b.drop (k + 1) := by rw [List.drop_eq_getElem_cons hk]
        have hmr : mrgL (a.drop i) (b.drop k) = bif decide (a[i].time < b[k].time) then consM a[i] (mrgL (a.drop (i + 1)) (b.drop k)) else bif decide (a[i].time > b[k].time) then consM b[k] (mrgL (a.drop i) (b.drop (k + 1))) else bif !(a[i].reg == b[k].reg) then none else consM a[i] (mrgL (a.drop (i + 1)) (b.drop (k + 1))) := by
          rw [da, db, mrgL]
        generalize a[i] = x at *
        generalize b[k] = y at *
        cases c1 : decide (x.time < y.time)
        · rw [c1, cond_false] at hmr
          cases c2 : (x.time == y.time)
          · have c3 : decide (x.time > y.time) = true := by simp at c1 c2 ⊢; omega
            rw [c3, cond_true] at hmr
            simp +contextual only [go_sem, ↓reduceIte, Nat.reduceEqDiff, Nat.reduceAdd, Nat.reduceLeDiff, Nat.reduceLT, reduceCtorEq, k47, hdi, hkb, hx, hy, wi, wk, c1, c2, b1, b2, okE, List.length_map, List.getElem?_map, Option.map_some, Int.natCast_nonneg, Int.toNat_natCast, Nat.zero_add, List.drop_zero, true_and, and_true]
            refine ⟨by rfl, by rfl, (i, k + 1, p ++ [y]), by dsimp only; omega, ⟨by dsimp only; omega, by dsimp only; omega, by simp; omega, ?_⟩, .ren [some 42] rfl rfl 0 ?_⟩
            · dsimp only; rw [← g4, hmr, addM_cons]
            · simp +contextual only [go_sem, ↓reduceIte, Nat.reduceEqDiff, Nat.reduceAdd, Nat.reduceLeDiff, Nat.reduceLT, reduceCtorEq, List.map_append, List.map_cons, List.map_nil, List.length_append, List.length_cons, List.length_nil, List.all_append, low_rdgs, Nat.zero_add]
          · have c3 : decide (x.time > y.time) = false := by simp at c1 c2 ⊢; omega
            rw [c3, cond_false] at hmr
            cases c4 : (x.reg == y.reg)
            · rw [c4, Bool.not_false, cond_true] at hmr
              rw [hmr] at g4
              rw [← g4]
              simp +contextual only [go_sem, ↓reduceIte, Nat.reduceEqDiff, Nat.reduceAdd, Nat.reduceLeDiff, Nat.reduceLT, reduceCtorEq, k47, hdi, hkb, hx, hy, wi, wk, c1, c2, c4, b1, b2, okE, List.length_map, List.getElem?_map, Option.map_some, Int.natCast_nonneg, Int.toNat_natCast, Nat.zero_add, List.drop_zero, true_and, and_true]
              exact ⟨by rfl, by rfl, by rfl, rfl⟩
            · rw [c4, Bool.not_true, cond_false] at hmr
              have hxy : x = y := by
                have e1 : x.time = y.time := by simpa using c2
                have e2 : x.reg = y.reg := by simpa using c4
                cases x; cases y; simp_all
              simp +contextual only [go_sem, ↓reduceIte, Nat.reduceEqDiff, Nat.reduceAdd, Nat.reduceLeDiff, Nat.reduceLT, reduceCtorEq, k47, hdi, hkb, hx, hy, wi, wk, c1, c2, c4, b1, b2, okE, List.length_map, List.getElem?_map, Option.map_some, Int.natCast_nonneg, Int.toNat_natCast, Nat.zero_add, List.drop_zero, true_and, and_true]
              refine ⟨by rfl, by rfl, by rfl, (i + 1, k + 1, p ++ [y]), by dsimp only; omega, ⟨by dsimp only; omega, by dsimp only; omega, by simp; omega, ?_⟩, .ren [some 51] rfl rfl 0 ?_⟩
              · dsimp only; rw [← g4, hmr, hxy, addM_cons]
              · simp +contextual only [go_sem, ↓reduceIte, Nat.reduceEqDiff, Nat.reduceAdd, Nat.reduceLeDiff, Nat.reduceLT, reduceCtorEq, List.map_append, List.map_cons, List.map_nil, List.length_append, List.length_cons, List.length_nil, List.all_append, low_rdgs, Nat.zero_add]
        · rw [c1, cond_true] at hmr
          simp +contextual only [go_sem, ↓reduceIte, Nat.reduceEqDiff, Nat.reduceAdd, Nat.reduceLeDiff, Nat.reduceLT, reduceCtorEq, k47, hdi, hkb, hx, hy, wi, wk, c1, b1, b2, okE, List.length_map, List.getElem?_map, Option.map_some, Int.natCast_nonneg, Int.toNat_natCast, Nat.zero_add, List.drop_zero, true_and, and_true]
          refine ⟨by rfl, (i + 1, k, p ++ [x]), by dsimp only; omega, ⟨by dsimp only; omega, by dsimp only; omega, by simp; omega, ?_⟩, .ren [some 25] rfl rfl 0 ?_⟩
          · dsimp only; rw [← g4, hmr, addM_cons]
          · simp +contextual only [go_sem, ↓reduceIte, Nat.reduceEqDiff, Nat.reduceAdd, Nat.reduceLeDiff, Nat.reduceLT, reduceCtorEq, List.map_append, List.map_cons, List.map_nil, List.length_append, List.length_cons, List.length_nil, List.all_append, low_rdgs, Nat.zero_add]
      · have hkb : (((k : Nat) : Int) == ((b.length : Nat) : Int)) = true := by simp; omega
        have db : b.drop k = [] := by simp; omega
        have hmr : mrgL (a.drop i) (b.drop k) = consM a[i] (mrgL (a.drop (i + 1)) (b.drop k)) := by
          rw [da, db, mrgL, mrgL_nil]; rfl
        generalize a[i] = x at *
        simp +contextual only [go_sem, ↓reduceIte, Nat.reduceEqDiff, Nat.reduceAdd, Nat.reduceLeDiff, Nat.reduceLT, reduceCtorEq, k47, hdi, hkb, hx, wi, b1, b2, okE, List.length_map, List.getElem?_map, Option.map_some, Int.natCast_nonneg, Int.toNat_natCast, Nat.zero_add, List.drop_zero, true_and, and_true]
        refine ⟨by rfl, (i + 1, k, p ++ [x]), by dsimp only; omega, ⟨by dsimp only; omega, by dsimp only; omega, by simp; omega, ?_⟩, .ren [some 25] rfl rfl 0 ?_⟩
        · dsimp only; rw [← g4, hmr, addM_cons]
        · simp +contextual only [go_sem, ↓reduceIte, Nat.reduceEqDiff, Nat.reduceAdd, Nat.reduceLeDiff, Nat.reduceLT, reduceCtorEq, List.map_append, List.map_cons, List.map_nil, List.length_append, List.length_cons, List.length_nil, List.all_append, low_rdgs, Nat.zero_add]
    · have hdi : decide (((i : Nat) : Int) < ((a.length : Nat) : Int)) = false := by simp; omega
      have da : a.drop i = [] := by simp; omega
      rcases Nat.lt_or_ge k b.length with hk | hk
      · have wk := wrap_nat hk (by omega)
        have hkb : (((k : Nat) : Int) == ((b.length : Nat) : Int)) = false := by simp; omega
        have hkl : decide (((k : Nat) : Int) < ((b.length : Nat) : Int)) = true := by simp; omega
        have hy : b[k]? = some b[k] := by simp
        have db : b.drop k = b[k] :: b.drop (k + 1) := by rw [List.drop_eq_getElem_cons hk]
        have hmr : mrgL (a.drop i) (b.drop k) = consM b[k] (mrgL (a.drop i) (b.drop (k + 1))) := by
          rw [da, db, mrgL, mrgL]; rfl
        generalize b[k] = y at *
        simp +contextual only [go_sem, ↓reduceIte, Nat.reduceEqDiff, Nat.reduceAdd, Nat.reduceLeDiff, Nat.reduceLT, reduceCtorEq, k47, hdi, hkb, hkl, hy, wk, b1, b2, okE, List.length_map, List.getElem?_map, Option.map_some, Int.natCast_nonneg, Int.toNat_natCast, Nat.zero_add, List.drop_zero, true_and, and_true]
        refine ⟨by rfl, by rfl, (i, k + 1, p ++ [y]), by dsimp only; omega, ⟨by dsimp only; omega, by dsimp only; omega, by simp; omega, ?_⟩, .ren [some 42] rfl rfl 0 ?_⟩
        · dsimp only; rw [← g4, hmr, addM_cons]
        · simp +contextual only [go_sem, ↓reduceIte, Nat.reduceEqDiff, Nat.reduceAdd, Nat.reduceLeDiff, Nat.reduceLT, reduceCtorEq, List.map_append, List.map_cons, List.map_nil, List.length_append, List.length_cons, List.length_nil, List.all_append, low_rdgs, Nat.zero_add]
      · have hkl : decide (((k : Nat) : Int) < ((b.length : Nat) : Int)) = false := by simp; omega
        have db : b.drop k = [] := by simp; omega
        have hml : mrgL a b = some p := by rw [← g4, da, db, mrgL]; simp [addM]
        have hT : (p.map Cod.enc).take p.length = p.map Cod.enc := List.take_of_length_le (by simp)
        rw [hml]
        simp +contextual only [go_sem, ↓reduceIte, Nat.reduceEqDiff, Nat.reduceAdd, Nat.reduceLeDiff, Nat.reduceLT, reduceCtorEq, k47, hdi, hkl, isF_rdgs, hT, decL_enc Cod.dec_enc, List.length_map, Nat.zero_add, Nat.le_refl, List.drop_zero]
        refine ⟨fun h4 => ?_, fun h4 => ?_⟩
        · have h5 : decide (p.length > 1024) = true := by simp at h4 ⊢; omega
          rw [h5]; rfl
        · have h5 : decide (p.length > 1024) = false := by simp at h4 ⊢; omega
          rw [h5]; rfl
end Go.Proofs.Ytoccifhckpjfaaa
