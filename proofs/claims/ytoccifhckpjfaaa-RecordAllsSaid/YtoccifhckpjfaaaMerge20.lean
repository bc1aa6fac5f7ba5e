/- Readings of two lists. -/
import Derived.Test.YtoccifhckpjfaaaRef20
namespace Go.Proofs.Ytoccifhckpjfaaa
set_option linter.all false
open Go.Idl
set_option maxHeartbeats 4000000
set_option maxRecDepth 100000
attribute [local go_sem] Try.underlying3 Try.underlying5 Try.underlying9 Try.underlying4
def consM (x : Rdg) : Option (List Rdg) → Option (List Rdg)
  | some l => some (x :: l)
  | none => none
def mrgL : List Rdg → List Rdg → Option (List Rdg)
  | [], b => some b
  | x :: a, [] => some (x :: a)
  | x :: a, y :: b => bif decide (x.time < y.time) then consM x (mrgL a (y :: b)) else bif decide (x.time > y.time) then consM y (mrgL (x :: a) b) else bif !(x.reg == y.reg) then none else consM x (mrgL a b)
termination_by a b => a.length + b.length
def addM (p : List Rdg) : Option (List Rdg) → Option (List Rdg)
  | some l => some (p ++ l)
  | none => none
theorem addM_cons (p : List Rdg) (x : Rdg) (o : Option (List Rdg)) : addM p (consM x o) = addM (p ++ [x]) o := by cases o <;> simp [addM, consM]
theorem mrgL_nil (a : List Rdg) : mrgL a [] = some a := by cases a <;> simp [mrgL]
def mrgS (a b : List Rdg) : List Rdg × Int := bif !asc a || !asc b then ([], 1) else match mrgL a b with
  | none => ([], 23)
  | some l => bif decide (l.length > 1024) then ([], 3) else (l, 0)
abbrev SMrg : List V → Option V := FT fun (t : List Rdg × List Rdg × Unit) => if t.1.length ≤ 1000000 ∧ t.2.1.length ≤ 1000000 then some (mrgS t.1 t.2.1) else none
theorem low_rdgs (n : Nat) (l : List Rdg) : (l.map Cod.enc).all (V.low n) = true := by
  simp only [List.all_map, List.all_eq_true]
  intro x _
  rfl
theorem isF_rdgs (l : List Rdg) : (l.map Cod.enc).all V.isF = true := by
  simp only [List.all_map, List.all_eq_true]
  intro x _
  rfl
theorem okE_rdgs (l : List Rdg) : (l.map Cod.enc).all (okE 2) = true := by
  simp only [List.all_map, List.all_eq_true]
  intro x _
  rfl
theorem con38 {Φ : Specs} (hg : Idl.Good Try.prog Φ) (h53 : Φ 53 = some SAsc) : Contract Try.prog 38 SMrg := by
  refine conT hg k38 ic38 (by decide) fun C t r h => ?_
  obtain ⟨a, b, u⟩ := t
  dsimp only at h
  split at h
  · rename_i hl
    obtain ⟨hla, hlb⟩ := hl
    cases h
    have la : a.length ≤ 1000000000 := by omega
    have lb : b.length ≤ 1000000000 := by omega
    simp +contextual only [go_sem, ↓reduceIte, Nat.reduceEqDiff, Nat.reduceAdd, Nat.reduceLeDiff, Nat.reduceLT, reduceCtorEq, c38, k38, h53, la, lb]
    refine ⟨fun h => by simp only [mrgS, h, cond_true], fun h => ?_⟩
    refine TriI.loopA hg k38 (fun p : Nat × Nat × List Rdg => ⟨slotsL [(0, Cod.enc a), (1, Cod.enc b), (6, .own 0 0 p.2.2.length), (7, .sc (.int .i64 (p.1 : Nat))), (8, .sc (.int .i64 (p.2.1 : Nat)))], objsL [.live 2 (p.2.2.map Cod.enc) true], 1⟩)
      (fun p => p.1 ≤ a.length ∧ p.2.1 ≤ b.length ∧ p.2.2.length ≤ p.1 + p.2.1 ∧ addM p.2.2 (mrgL (a.drop p.1) (b.drop p.2.1)) = mrgL a b) (fun p => a.length + b.length - (p.1 + p.2.1)) (0, 0, []) (.ren [none] rfl rfl 0 ?_) ⟨Nat.zero_le _, Nat.zero_le _, Nat.zero_le _, ?_⟩ ?_
    · simp +contextual only [go_sem, ↓reduceIte, Nat.reduceEqDiff, Nat.reduceAdd, Nat.reduceLeDiff, Nat.reduceLT, reduceCtorEq, List.length_nil, List.map_nil]
      rfl
    · rw [List.drop_zero, List.drop_zero]
      cases mrgL a b <;> rfl
    · rintro ⟨i, j, p⟩ ⟨g1, g2, g3, g4⟩
      dsimp only at g1 g2 g3 g4 ⊢
      have b1 : (p.length + 1) * 16 ≤ 68719476736 := by omega
      have b2 : p.length + 1 ≤ 4294967296 := by omega
      by_cases hi : i < a.length
      · by_cases hj : j < b.length
        · have wi := wrap_nat hi (by omega)
          have wj := wrap_nat hj (by omega)
          have hx : a[i]? = some a[i] := by simp
          have hy : b[j]? = some b[j] := by simp
          have da : a.drop i = a[i] :: a.drop (i + 1) := by rw [List.drop_eq_getElem_cons hi]
          have db : b.drop j = b[j] :: b.drop (j + 1) := by rw [List.drop_eq_getElem_cons hj]
          simp +contextual only [go_sem, ↓reduceIte, Nat.reduceEqDiff, Nat.reduceAdd, Nat.reduceLeDiff, Nat.reduceLT, reduceCtorEq, k38, lt_dec hi, lt_dec hj, hx, hy, wi, wj, b1, b2, List.length_map, List.getElem?_map, Option.map_some, Int.natCast_nonneg, Int.toNat_natCast, Nat.zero_add, List.drop_zero, true_and, and_true, okE]
          have hm : mrgL (a.drop i) (b.drop j) = bif decide (a[i].time < b[j].time) then consM a[i] (mrgL (a.drop (i + 1)) (b.drop j)) else bif decide (a[i].time > b[j].time) then consM b[j] (mrgL (a.drop i) (b.drop (j + 1))) else bif !(a[i].reg == b[j].reg) then none else consM a[i] (mrgL (a.drop (i + 1)) (b.drop (j + 1))) := by
            rw [da, db, mrgL]
          refine ⟨rfl, fun h1 => ⟨(i + 1, j, p ++ [a[i]]), by dsimp only; omega, ⟨by dsimp only; omega, by dsimp only; omega, by simp; omega, ?_⟩, .ren [some 14] rfl rfl 0 ?_⟩, fun h1 => ⟨rfl, fun h2 => ⟨(i, j + 1, p ++ [b[j]]), by dsimp only; omega, ⟨by dsimp only; omega, by dsimp only; omega, by simp; omega, ?_⟩, .ren [some 26] rfl rfl 0 ?_⟩, fun h2 => ⟨rfl, fun h3 => ?_, fun h3 => ⟨(i + 1, j + 1, p ++ [a[i]]), by dsimp only; omega, ⟨by dsimp only; omega, by dsimp only; omega, by simp; omega, ?_⟩, .ren [some 38] rfl rfl 0 ?_⟩⟩⟩⟩
          · dsimp only; rw [← g4, hm, h1, cond_true, addM_cons]
          · simp +contextual only [go_sem, ↓reduceIte, Nat.reduceEqDiff, Nat.reduceAdd, Nat.reduceLeDiff, Nat.reduceLT, reduceCtorEq, List.map_append, List.map_cons, List.map_nil, List.length_append, List.length_cons, List.length_nil, List.all_append, low_rdgs, Nat.zero_add]
          · dsimp only; rw [← g4, hm, h1, h2, cond_false, cond_true, addM_cons]
          · simp +contextual only [go_sem, ↓reduceIte, Nat.reduceEqDiff, Nat.reduceAdd, Nat.reduceLeDiff, Nat.reduceLT, reduceCtorEq, List.map_append, List.map_cons, List.map_nil, List.length_append, List.length_cons, List.length_nil, List.all_append, low_rdgs, Nat.zero_add]
          · have h3' : (!(a[i].reg == b[j].reg)) = true := h3
            rw [hm, h1, h2, h3'] at g4
            simp only [mrgS, h, ← g4, addM, cond_true, cond_false]
          · have h3' : (!(a[i].reg == b[j].reg)) = false := h3
            dsimp only; rw [← g4, hm, h1, h2, h3', cond_false, cond_false, cond_false, addM_cons]
          · simp +contextual only [go_sem, ↓reduceIte, Nat.reduceEqDiff, Nat.reduceAdd, Nat.reduceLeDiff, Nat.reduceLT, reduceCtorEq, List.map_append, List.map_cons, List.map_nil, List.length_append, List.length_cons, List.length_nil, List.all_append, low_rdgs, Nat.zero_add]
        · have ej : j = b.length := by omega
          have hd : decide ((j : Int) < (b.length : Int)) = false := by simp; omega
          have hm : mrgL a b = some (p ++ a.drop i ++ b.drop j) := by
            rw [← g4, show b.drop j = [] by simp; omega, mrgL_nil]; simp [addM]
          have hb0 : b.drop j = [] := by simp; omega
          have a1 : (p.length + (a.drop i).length) * 16 ≤ 68719476736 := by simp; omega
          have a2 : p.length + (a.drop i).length ≤ 4294967296 := by simp; omega
          have ai : i ≤ a.length := by omega
          have bj : j ≤ b.length := by omega
          have hA : List.drop i (List.take a.length (a.map Cod.enc)) = (a.drop i).map Cod.enc := by rw [List.take_of_length_le (by simp), List.map_drop]
          have hB : List.drop j (List.take b.length (b.map Cod.enc)) = (b.drop j).map Cod.enc := by rw [List.take_of_length_le (by simp), List.map_drop]
          simp +contextual only [go_sem, ↓reduceIte, Nat.reduceEqDiff, Nat.reduceAdd, Nat.reduceLeDiff, Nat.reduceLT, reduceCtorEq, k38, lt_dec hi, hd, hb0, hA, hB, a1, a2, ai, bj, List.length_map, okE_rdgs, List.getElem?_map, Option.map_none, Option.map_some, Int.natCast_nonneg, Int.toNat_natCast, Nat.zero_add, Nat.add_zero, Nat.le_refl, List.drop_zero, List.length_nil, List.map_nil, List.append_nil, List.all_nil, List.length_append, true_and, and_true]
          have hF : (p.map Cod.enc ++ (a.drop i).map Cod.enc).all V.isF = true := by rw [← List.map_append]; exact isF_rdgs _
          have hT : (p.map Cod.enc ++ (a.drop i).map Cod.enc).take (p.length + (a.drop i).length) = (p ++ a.drop i).map Cod.enc := by rw [← List.map_append, List.take_of_length_le (by simp)]
          have hm' : mrgL a b = some (p ++ a.drop i) := by rw [hm, hb0, List.append_nil]
          refine ⟨fun h4 => ?_, fun h4 => ?_⟩
          · have h5 : decide ((p ++ a.drop i).length > 1024) = true := by simp at h4 ⊢; omega
            simp only [mrgS, h, hm', h5, cond_true, cond_false]
          · have h5 : decide ((p ++ a.drop i).length > 1024) = false := by simp at h4 ⊢; omega
            have hs : mrgS a b = (p ++ a.drop i, 0) := by simp only [mrgS, h, hm', h5, cond_false]
            rw [hs]
            simp +contextual only [go_sem, ↓reduceIte, Nat.reduceEqDiff, Nat.reduceAdd, Nat.reduceLeDiff, Nat.reduceLT, reduceCtorEq, hF, hT, decL_enc Cod.dec_enc]
      · have ei : i = a.length := by omega
        have hd : decide ((i : Int) < (a.length : Int)) = false := by simp; omega
        have ha0 : a.drop i = [] := by simp; omega
        have hm : mrgL a b = some (p ++ b.drop j) := by
          rw [← g4, ha0]; simp [addM, mrgL]
        have a1 : (p.length + (b.drop j).length) * 16 ≤ 68719476736 := by simp; omega
        have a2 : p.length + (b.drop j).length ≤ 4294967296 := by simp; omega
        have a3 : p.length * 16 ≤ 68719476736 := by omega
        have a4 : p.length ≤ 4294967296 := by omega
        have ai : i ≤ a.length := by omega
        have hA : List.drop i (List.take a.length (a.map Cod.enc)) = (a.drop i).map Cod.enc := by rw [List.take_of_length_le (by simp), List.map_drop]
        have hB : List.drop j (List.take b.length (b.map Cod.enc)) = (b.drop j).map Cod.enc := by rw [List.take_of_length_le (by simp), List.map_drop]
        have hF : (p.map Cod.enc ++ (b.drop j).map Cod.enc).all V.isF = true := by rw [← List.map_append]; exact isF_rdgs _
        have hT : (p.map Cod.enc ++ (b.drop j).map Cod.enc).take (p.length + (b.drop j).length) = (p ++ b.drop j).map Cod.enc := by rw [← List.map_append, List.take_of_length_le (by simp)]
        simp +contextual only [go_sem, ↓reduceIte, Nat.reduceEqDiff, Nat.reduceAdd, Nat.reduceLeDiff, Nat.reduceLT, reduceCtorEq, k38, hd, ha0, hA, hB, a1, a2, a3, a4, ai, g2, List.length_map, okE_rdgs, List.getElem?_map, Option.map_none, Option.map_some, Int.natCast_nonneg, Int.toNat_natCast, Nat.zero_add, Nat.add_zero, Nat.le_refl, List.drop_zero, List.length_nil, List.map_nil, List.append_nil, List.all_nil, List.length_append, true_and, and_true]
        refine ⟨fun h4 => ?_, fun h4 => ?_⟩
        · have h5 : decide ((p ++ b.drop j).length > 1024) = true := by simp at h4 ⊢; omega
          simp only [mrgS, h, hm, h5, cond_true, cond_false]
        · have h5 : decide ((p ++ b.drop j).length > 1024) = false := by simp at h4 ⊢; omega
          have hs : mrgS a b = (p ++ b.drop j, 0) := by simp only [mrgS, h, hm, h5, cond_false]
          rw [hs]
          simp +contextual only [go_sem, ↓reduceIte, Nat.reduceEqDiff, Nat.reduceAdd, Nat.reduceLeDiff, Nat.reduceLT, reduceCtorEq, hF, hT, decL_enc Cod.dec_enc]
  · cases h
end Go.Proofs.Ytoccifhckpjfaaa
