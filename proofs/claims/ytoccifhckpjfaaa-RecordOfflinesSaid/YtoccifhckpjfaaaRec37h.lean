/- Records: RecordOfflines. -/
import Derived.Test.YtoccifhckpjfaaaRec37g
namespace Go.Proofs.Ytoccifhckpjfaaa
set_option linter.all false
open Go.Idl
set_option maxHeartbeats 16000000
set_option maxRecDepth 100000
attribute [local go_sem] agRec Try.underlying3 Try.underlying5 Try.underlying9 Try.underlying4 Try.underlying30 Try.underlying22 Try.underlying25
theorem con5 {Φ : Specs} (hg : Idl.Good Try.prog Φ) (h7 : Φ 7 = some SSmall) (h8 : Φ 8 = some SEx) (h9 : Φ 9 = some SMake) (h11 : Φ 11 = some SSameR) :
    Contract Try.prog 5 (FT fun (t : List EvD × Int × Bool × Unit) => if t.1.length ≤ 9223372036854775807 then some true else none) := by
  refine conT hg k5 ic5 (by decide) fun C t r h => ?_
  obtain ⟨l, m, bo, u⟩ := t
  dsimp only at h
  by_cases hl : l.length ≤ 9223372036854775807
  case neg => rw [if_neg hl] at h; cases h
  rw [if_pos hl] at h
  cases h
  cases hs : smallS l with
  | false => simp +contextual only [go_sem, ↓reduceIte, Nat.reduceEqDiff, Nat.reduceAdd, Nat.reduceLeDiff, Nat.reduceLT, reduceCtorEq, c5, k5, hl, hs, h7, h8, Bool.not_false, List.length_map]
  | true =>
    have h60 := small_len hs
    simp +contextual only [go_sem, ↓reduceIte, Nat.reduceEqDiff, Nat.reduceAdd, Nat.reduceLeDiff, Nat.reduceLT, reduceCtorEq, c5, k5, hl, hs, h7, Bool.not_true, List.length_map]
    refine TriI.loopL hg k5 l (fun i (a : List EvD) => ⟨slotsL [(0, Cod.enc l), (1, .sc (.int .i64 m)), (2, .sc (.bool bo)), (6, .sc (.bool false)), (7, .own 0 0 a.length), (21, Cod.enc l), (22, .sc (.int .i64 l.length)), (23, .sc (.int .i64 i))], objsL [.live 10 (a.map Cod.enc) true], 1⟩)
      (fun xs a => l.map (setO bo) = a ++ xs.map (setO bo) ∧ a.length + xs.length = l.length) [] (.ren [none] rfl rfl 0 ?_) ⟨rfl, by simp⟩ ?_ ?_
    · simp +contextual only [go_sem, ↓reduceIte, Nat.reduceEqDiff, Nat.reduceAdd, Nat.reduceLeDiff, Nat.reduceLT, reduceCtorEq, List.length_map, List.map_nil, List.length_nil]
      rfl
    · rintro a ⟨ha1, ha2⟩
      rw [List.map_nil, List.append_nil] at ha1
      subst ha1
      simp +contextual only [go_sem, ↓reduceIte, Nat.reduceEqDiff, Nat.reduceAdd, Nat.reduceLeDiff, Nat.reduceLT, reduceCtorEq, k5, Int.lt_irrefl, decide_false, List.length_map]
      refine TriI.loopL hg k5 l (fun i (a : List EvD) => ⟨slotsL [(0, Cod.enc l), (1, .sc (.int .i64 m)), (2, .sc (.bool bo)), (6, .sc (.bool false)), (7, .own 0 0 l.length), (10, .own 1 0 a.length), (34, Cod.enc l), (35, .sc (.int .i64 l.length)), (36, .sc (.int .i64 i))], objsL [.live 10 ((l.map (setO bo)).map Cod.enc) true, .live 10 (a.map Cod.enc) true], 2⟩)
        (fun xs a => l.map (setO false) = a ++ xs.map (setO false) ∧ a.length + xs.length = l.length) [] (.ren [some 0, none] rfl rfl 0 ?_) ⟨rfl, by simp⟩ ?_ ?_
      · simp +contextual only [go_sem, ↓reduceIte, Nat.reduceEqDiff, Nat.reduceAdd, Nat.reduceLeDiff, Nat.reduceLT, reduceCtorEq, List.length_map, List.map_nil, List.length_nil, low_evs]
        rfl
      · rintro a ⟨ha1, ha2⟩
        rw [List.map_nil, List.append_nil] at ha1
        subst ha1
        have hR := make_setO bo l m
        obtain ⟨q1, q2, q3⟩ := hR
        have hT1 : ((l.map (setO bo)).map Cod.enc).take l.length = (l.map (setO bo)).map Cod.enc := List.take_of_length_le (by simp)
        have hT0 : ((l.map (setO false)).map Cod.enc).take l.length = (l.map (setO false)).map Cod.enc := List.take_of_length_le (by simp)
        have hp : l.length ≤ 100000 := by omega
        have hrd := makeS_rds (l.map (setO false)) m
        generalize hm0 : makeS (l.map (setO false)) m = r0 at *
        generalize hm1 : makeS (l.map (setO bo)) m = r1 at *
        have hrd2 : r0.1.rds.length ≤ 1000000 := by omega
        have hee : (r0.2 == r1.2) = true := by rw [q1]; simp
        cases he : (r0.2 == 0)
        · have he2 : (r0.2 != 0) = true := by rw [bne, he]; rfl
          simp +contextual only [go_sem, ↓reduceIte, Nat.reduceEqDiff, Nat.reduceAdd, Nat.reduceLeDiff, Nat.reduceLT, reduceCtorEq, k5, Int.lt_irrefl, decide_false, h9, h11, isF_evs, hT0, hT1, decL_enc Cod.dec_enc, hp, hm0, hm1, hrd2, hee, he, he2, q2, Nat.zero_add, Nat.le_refl, List.drop_zero, List.length_map]
        · have he2 : (r0.2 != 0) = false := by rw [bne, he]; rfl
          obtain ⟨o1, o2⟩ := q3 (by simpa using he)
          have q4 : sameRec (RecD.mk r0.1.station r0.1.txn r0.1.conn r0.1.token r0.1.start r0.1.stop r0.1.rds r0.1.energy r0.1.reason false r0.1.denied) (RecD.mk r1.1.station r1.1.txn r1.1.conn r1.1.token r1.1.start r1.1.stop r1.1.rds r1.1.energy r1.1.reason bo r1.1.denied) = true := q2
          simp +contextual only [go_sem, ↓reduceIte, Nat.reduceEqDiff, Nat.reduceAdd, Nat.reduceLeDiff, Nat.reduceLT, reduceCtorEq, k5, Int.lt_irrefl, decide_false, h9, h11, isF_evs, hT0, hT1, decL_enc Cod.dec_enc, hp, hm0, hm1, hrd2, hee, he, he2, q2, q4, o1, o2, beq_self_eq_true, Bool.not_false, Nat.zero_add, Nat.le_refl, List.drop_zero, List.length_map]
      · rintro i a x xs hd hlt hx ⟨hinv, hlen⟩
        have hw := wrap_nat hlt (by omega)
        have b3 : (a.length + 1) * 120 ≤ 68719476736 := by simp at hlen; omega
        have b4 : a.length + 1 ≤ 4294967296 := by simp at hlen; omega
        simp +contextual only [go_sem, ↓reduceIte, Nat.reduceEqDiff, Nat.reduceAdd, Nat.reduceLeDiff, Nat.reduceLT, reduceCtorEq, k5, lt_dec hlt, hx, hw, b3, b4, okE, List.length_map, List.getElem?_map, Option.map_some, Int.natCast_nonneg, Int.toNat_natCast, Nat.zero_add, List.drop_zero, true_and, and_true]
        refine ⟨a ++ [setO false x], ⟨?_, ?_⟩, .ren [some 0, some 6] rfl rfl 1 ?_⟩
        · rw [hinv]; simp
        · simp at hlen ⊢; omega
        · simp +contextual only [go_sem, ↓reduceIte, Nat.reduceEqDiff, Nat.reduceAdd, Nat.reduceLeDiff, Nat.reduceLT, reduceCtorEq, setO, List.map_append, List.map_cons, List.map_nil, List.length_append, List.length_cons, List.length_nil, List.all_append, low_evs, Nat.zero_add]
    · rintro i a x xs hd hlt hx ⟨hinv, hlen⟩
      have hw := wrap_nat hlt (by omega)
      have b3 : (a.length + 1) * 120 ≤ 68719476736 := by simp at hlen; omega
      have b4 : a.length + 1 ≤ 4294967296 := by simp at hlen; omega
      simp +contextual only [go_sem, ↓reduceIte, Nat.reduceEqDiff, Nat.reduceAdd, Nat.reduceLeDiff, Nat.reduceLT, reduceCtorEq, k5, lt_dec hlt, hx, hw, b3, b4, okE, List.length_map, List.getElem?_map, Option.map_some, Int.natCast_nonneg, Int.toNat_natCast, Nat.zero_add, List.drop_zero, true_and, and_true]
      refine ⟨a ++ [setO bo x], ⟨?_, ?_⟩, .ren [some 5] rfl rfl 0 ?_⟩
      · rw [hinv]; simp
      · simp at hlen ⊢; omega
      · simp +contextual only [go_sem, ↓reduceIte, Nat.reduceEqDiff, Nat.reduceAdd, Nat.reduceLeDiff, Nat.reduceLT, reduceCtorEq, setO, List.map_append, List.map_cons, List.map_nil, List.length_append, List.length_cons, List.length_nil, List.all_append, low_evs, Nat.zero_add]
end Go.Proofs.Ytoccifhckpjfaaa
