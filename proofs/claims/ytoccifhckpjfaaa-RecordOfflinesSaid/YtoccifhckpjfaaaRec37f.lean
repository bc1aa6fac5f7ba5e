/- Records: the order of the events has no effect. -/
import Derived.Test.YtoccifhckpjfaaaRec37p
namespace Go.Proofs.Ytoccifhckpjfaaa
set_option linter.all false
open Go.Idl Go.Idl.Stab
set_option maxHeartbeats 16000000
set_option maxRecDepth 100000
attribute [local go_sem] agRec Try.underlying3 Try.underlying5 Try.underlying9 Try.underlying4 Try.underlying30 Try.underlying22 Try.underlying25
abbrev SEx : List V → Option V := FT fun (_ : Unit) => some true
theorem r_rem (a n : Nat) : ((a : Int)).tmod (n : Int) = ((a % n : Nat) : Int) := by
  rw [Int.tmod_eq_emod_of_nonneg (by omega)]; rfl
theorem con4 {Φ : Specs} (hg : Idl.Good Try.prog Φ) (h7 : Φ 7 = some SSmall) (h8 : Φ 8 = some SEx) (h10 : Φ 10 = some SEv) (h9 : Φ 9 = some SMake) (h11 : Φ 11 = some SSameR) :
    Contract Try.prog 4 (FT fun (t : List EvD × Int × KInt .u8 × Unit) => if t.1.length ≤ 9223372036854775807 then some true else none) := by
  refine conT hg k4 ic4 (by decide) fun C t r h => ?_
  obtain ⟨l, m, turn, u⟩ := t
  dsimp only at h
  by_cases hl : l.length ≤ 9223372036854775807
  case neg => rw [if_neg hl] at h; cases h
  rw [if_pos hl] at h
  cases h
  by_cases hc : smallS l = false ∨ l.length = 0
  · rcases hc with hc | hc
    · simp +contextual only [go_sem, ↓reduceIte, Nat.reduceEqDiff, Nat.reduceAdd, Nat.reduceLeDiff, Nat.reduceLT, reduceCtorEq, c4, k4, hl, hc, h7, h8, Bool.not_false, List.length_map]
    · have hz : (((l.length : Nat) : Int) == 0) = true := by rw [hc]; rfl
      cases hs : smallS l <;> simp +contextual only [go_sem, ↓reduceIte, Nat.reduceEqDiff, Nat.reduceAdd, Nat.reduceLeDiff, Nat.reduceLT, reduceCtorEq, c4, k4, hl, hs, hz, h7, h8, Bool.not_false, Bool.not_true, List.length_map]
  · have hs : smallS l = true := by cases h : smallS l <;> simp_all
    have hne : l.length ≠ 0 := fun h => hc (.inr h)
    have hz : (((l.length : Nat) : Int) == 0) = false := by simp; intro h; exact hne (by simp [h])
    have h60 := small_len hs
    simp +contextual only [go_sem, ↓reduceIte, Nat.reduceEqDiff, Nat.reduceAdd, Nat.reduceLeDiff, Nat.reduceLT, reduceCtorEq, c4, k4, hl, hs, hz, h7, Bool.not_true, List.length_map]
    refine TriI.loopL hg k4 l (fun i (_ : Unit) => ⟨slotsL [(0, Cod.enc l), (1, .sc (.int .i64 m)), (2, .sc (.int .u8 turn.1)), (6, .sc (.bool false)), (26, Cod.enc l), (27, .sc (.int .i64 l.length)), (28, .sc (.int .i64 i))], objsL [], 0⟩)
      (fun xs _ => badE xs = badE l) () (.back rfl ?_) rfl ?_ ?_
    · simp +contextual only [go_sem, ↓reduceIte, Nat.reduceEqDiff, Nat.reduceAdd, Nat.reduceLeDiff, Nat.reduceLT, reduceCtorEq, List.length_map]
      rfl
    · intro _ hbad
      have hev := badE_zero hbad.symm
      have hk0 : 0 ≤ turn.1 := turn.2.1
      obtain ⟨tn, htn⟩ := Int.eq_ofNat_of_zero_le hk0
      have hk255 : tn ≤ 255 := by have := turn.2.2; rw [htn] at this; simp [IntKind.max, IntKind.signed, IntKind.bits] at this; omega
      have hwt : IntKind.i64.wrap ((tn : Nat) : Int) = ((tn : Nat) : Int) := by rw [IntKind.wrap_i64]; omega
      have hnz : ((l.length : Nat) : Int) ≠ 0 := by omega
      have hpre : l.length ≤ 100000 := by omega
      obtain ⟨k, hk⟩ : ∃ k, k = tn % l.length := ⟨_, rfl⟩
      have hkl : k < l.length := by rw [hk]; exact Nat.mod_lt _ (by omega)
      have hrem : ((tn : Nat) : Int).tmod ((l.length : Nat) : Int) = ((k : Nat) : Int) := by rw [r_rem, hk]
      have hkle : k ≤ l.length := by omega
      obtain ⟨xk, hxk⟩ : ∃ x, l[k]? = some x := ⟨l[k]'hkl, by simp⟩
      have eD : List.drop k (List.take l.length (l.map Cod.enc)) = (l.drop k).map Cod.enc := by rw [List.take_of_length_le (by simp), List.map_drop]
      have eT : List.drop 0 (List.take k (l.map Cod.enc)) = (l.take k).map Cod.enc := by rw [List.drop_zero, List.map_take]
      have hmin : min k l.length = k := by omega
      have wl1 : IntKind.i64.wrap (((l.length - k + k + 1 : Nat) : Int) - 1) = ((l.length : Nat) : Int) := by rw [IntKind.wrap_i64]; omega
      have a1 : (l.length - k) * 120 ≤ 68719476736 := by omega
      have a2 : l.length - k ≤ 4294967296 := by omega
      have a3 : (l.length - k + k) * 120 ≤ 68719476736 := by omega
      have a4 : l.length - k + k ≤ 4294967296 := by omega
      have a5 : (l.length - k + k + 1) * 120 ≤ 68719476736 := by omega
      have a6 : l.length - k + k + 1 ≤ 4294967296 := by omega
      simp +contextual only [go_sem, ↓reduceIte, Nat.reduceEqDiff, Nat.reduceAdd, Nat.reduceLeDiff, Nat.reduceLT, reduceCtorEq, k4, Int.lt_irrefl, decide_false, htn, hwt, hnz, ne_eq, not_false_eq_true, hpre, hrem, hkle, hxk, eD, eT, a1, a2, a3, a4, a5, a6, okE_evs, okE, h9, List.length_map, List.length_nil, List.nil_append, List.length_drop, List.length_take, List.getElem?_map, Option.map_some, Option.map_none, Int.natCast_nonneg, Int.toNat_natCast, Nat.zero_add, Nat.zero_le, hmin, wl1, List.length_append, eq_self, Nat.le_refl, List.drop_zero, true_and, and_true]
      refine ⟨by rfl, ?_⟩
      obtain ⟨M, hM⟩ : ∃ M, M = l.drop k ++ l.take k ++ [xk] := ⟨_, rfl⟩
      obtain ⟨N, hN⟩ : ∃ N, N = l.length - k + k + 1 := ⟨_, rfl⟩
      have hML : M.length = N := by rw [hM, hN]; simp; omega
      have hMset : ∀ x, x ∈ l ↔ x ∈ M.reverse := fun x => by
        rw [List.mem_reverse, hM, List.mem_append, List.mem_append, List.mem_singleton]
        have h1 : x ∈ l ↔ x ∈ l.take k ∨ x ∈ l.drop k := by
          conv => lhs; rw [← List.take_append_drop k l]
          exact List.mem_append
        have h2 : x = xk → x ∈ l := fun h => by rw [h]; exact List.mem_of_getElem? hxk
        rw [h1]
        constructor
        · rintro (g | g)
          · exact .inl (.inr g)
          · exact .inl (.inl g)
        · rintro ((g | g) | g)
          · exact .inr g
          · exact .inl g
          · exact h1.1 (h2 g)
      have hmake : makeS M.reverse m = makeS l m := (make_set hev hMset m).symm
      have hrds := makeS_rds l m
      generalize makeS l m = res at *
      rw [← hN]
      refine TriI.loopA hg k4 (fun q : List EvD × List EvD × List EvD => ⟨slotsL [(1, .sc (.int .i64 m)), (6, .sc (.bool false)), (9, .ref 0 0 0), (10, .sc (.int .i64 res.2)), (12, .own 1 0 N), (13, .sc (.int .i64 (q.1.length : Nat))), (14, .sc (.int .i64 (q.1.length + q.2.1.length - 1 : Nat)))], objsL [.live 11 [Cod.enc res.1] true, .live 10 ((q.1 ++ q.2.1 ++ q.2.2).map Cod.enc) true], 2⟩)
        (fun q => q.1 ++ q.2.1.reverse ++ q.2.2 = M.reverse ∧ q.1.length + q.2.1.length + q.2.2.length = N) (fun q => q.2.1.length) ([], M, []) (.ren [some 0, some 16] rfl rfl 1 ?_) ⟨by simp, by simp [hML]⟩ ?_
      · simp +contextual only [go_sem, ↓reduceIte, Nat.reduceEqDiff, Nat.reduceAdd, Nat.reduceLeDiff, Nat.reduceLT, reduceCtorEq, List.append_nil, List.nil_append, hM, List.map_append, List.map_cons, List.map_nil, List.length_append, List.length_cons, List.length_nil, Nat.zero_add, low_evs, List.all_append]
        exact ⟨rfl, by simp; omega⟩
      · rintro ⟨A, mid, B⟩ ⟨h1, h2⟩
        dsimp only at h1 h2 ⊢
        by_cases hm2 : 2 ≤ mid.length
        · obtain ⟨x, M1, rfl⟩ : ∃ x M1, mid = x :: M1 := by cases mid with
            | nil => simp at hm2
            | cons x M1 => exact ⟨x, M1, rfl⟩
          obtain ⟨M2, y, rfl⟩ : ∃ M2 y, M1 = M2 ++ [y] := by
            rcases List.eq_nil_or_concat M1 with h | ⟨M2, y, h⟩
            · subst h; simp at hm2
            · exact ⟨M2, y, by rw [h, List.concat_eq_append]⟩
          obtain ⟨j, hj⟩ : ∃ j, j = A.length + (x :: (M2 ++ [y])).length - 1 := ⟨_, rfl⟩
          have hj1 : j = A.length + 1 + M2.length := by rw [hj]; simp; omega
          have hd : decide (((A.length : Nat) : Int) < ((j : Nat) : Int)) = true := by simp; omega
          have hjN : ((j : Nat) : Int) < ((N : Nat) : Int) := by simp at h2; omega
          have hiN : ((A.length : Nat) : Int) < ((N : Nat) : Int) := by simp at h2; omega
          have wi := wrapP (i := A.length) (by simp at h2; omega)
          have wj : IntKind.i64.wrap (((j : Nat) : Int) - 1) = ((j - 1 : Nat) : Int) := by rw [IntKind.wrap_i64]; simp at h2; omega
          rw [← hj]
          have hcE : (Cod.enc : EvD → V) = fun x => .agg (cellsE x) := rfl
          have f1 : ∀ x, (cellsE x).length = 10 := fun _ => rfl
          have f2 : ∀ x, (cellsE x).take 10 = cellsE x := fun _ => rfl
          have f3 : ∀ x y, V.write (.agg (cellsE x)) 0 (.agg (cellsE y)) = .agg (cellsE y) := fun _ _ => rfl
          have f4 : ∀ x, (cellsE x).all V.cellOk = true := fun _ => rfl
          have f5 : ∀ x, V.solid (.agg (cellsE x)) = true := fun _ => rfl
          have f6 : ∀ (n : Nat) (l : List EvD), (l.map (fun x => V.agg (cellsE x))).all (V.low n) = true := fun n l => low_evs n l
          rw [hcE]
          clear hcE
          generalize cellsE = h at *
          have el : (A ++ x :: (M2 ++ [y]) ++ B).map (fun x => V.agg (h x)) = A.map (fun x => V.agg (h x)) ++ V.agg (h x) :: (M2.map (fun x => V.agg (h x)) ++ V.agg (h y) :: B.map (fun x => V.agg (h x))) := by simp
          have l1 : (A.map (fun x => V.agg (h x))).length = A.length := by simp
          have l2 : A.length + 1 + (M2.map (fun x => V.agg (h x))).length = j := by simp; omega
          have gx : (A.map (fun x => V.agg (h x)) ++ V.agg (h x) :: (M2.map (fun x => V.agg (h x)) ++ V.agg (h y) :: B.map (fun x => V.agg (h x))))[A.length]? = some (V.agg (h x)) := get_mid' l1 _ _
          have gy : (A.map (fun x => V.agg (h x)) ++ V.agg (h x) :: (M2.map (fun x => V.agg (h x)) ++ V.agg (h y) :: B.map (fun x => V.agg (h x))))[j]? = some (V.agg (h y)) := get_snd _ _ l1 l2
          have gy' : ((A.map (fun x => V.agg (h x)) ++ V.agg (h x) :: (M2.map (fun x => V.agg (h x)) ++ V.agg (h y) :: B.map (fun x => V.agg (h x)))).set A.length (V.agg (h y)))[j]? = some (V.agg (h y)) := by
            rw [List.getElem?_set_ne (by omega)]; exact gy
          have hsw : ((A.map (fun x => V.agg (h x)) ++ V.agg (h x) :: (M2.map (fun x => V.agg (h x)) ++ V.agg (h y) :: B.map (fun x => V.agg (h x)))).set A.length (V.agg (h y))).set j (V.agg (h x)) = ((A ++ [y]) ++ M2 ++ (x :: B)).map (fun x => V.agg (h x)) := by
            rw [swap_two _ _ l1 l2]; simp
          rw [el]
          simp +contextual only [go_sem, ↓reduceIte, Nat.reduceEqDiff, Nat.reduceAdd, Nat.reduceLeDiff, Nat.reduceLT, reduceCtorEq, k4, hd, hjN, hiN, wi, wj, gx, gy, gy', hsw, f1, f2, f3, f4, f5, updH_over, List.length_map, Nat.zero_add, Nat.le_refl, List.drop_zero, Int.natCast_nonneg, Int.toNat_natCast]
          refine ⟨by rfl, (A ++ [y], M2, x :: B), by simp; omega, ⟨?_, ?_⟩, .ren [some 0, some 1] rfl rfl 0 ?_⟩
          · rw [← h1]; simp
          · simp at h2 ⊢; omega
          · simp +contextual only [go_sem, ↓reduceIte, Nat.reduceEqDiff, Nat.reduceAdd, Nat.reduceLeDiff, Nat.reduceLT, reduceCtorEq, f6]
            exact ⟨by simp, by simp; omega⟩
        · have hd : decide (((A.length : Nat) : Int) < ((A.length + mid.length - 1 : Nat) : Int)) = false := by simp; omega
          have hrev : mid.reverse = mid := by
            match mid, hm2 with
            | [], _ => rfl
            | [z], _ => rfl
            | _ :: _ :: _, h => exact absurd (by simp) h
          rw [hrev] at h1
          rw [h1]
          have hRl : (M.reverse).length = N := by simp [hML]
          have hT : (M.reverse.map Cod.enc).take N = M.reverse.map Cod.enc := List.take_of_length_le (by simp [hML])
          have hp2 : N ≤ 100000 := by omega
          have hrd : res.1.rds.length ≤ 1000000 := by omega
          have hss := sameRec_self res.1
          cases he : (res.2 == 0)
          case true =>
            have he2 : (res.2 != 0) = false := by rw [bne, he]; rfl
            simp +contextual only [go_sem, ↓reduceIte, Nat.reduceEqDiff, Nat.reduceAdd, Nat.reduceLeDiff, Nat.reduceLT, reduceCtorEq, k4, hd, h9, h11, isF_evs, hT, decL_enc Cod.dec_enc, hp2, hmake, List.length_map, hRl, Nat.zero_add, Nat.le_refl, List.drop_zero, he, he2, beq_self_eq_true, hrd, hss]
          have he2 : (res.2 != 0) = true := by rw [bne, he]; rfl
          simp +contextual only [go_sem, ↓reduceIte, Nat.reduceEqDiff, Nat.reduceAdd, Nat.reduceLeDiff, Nat.reduceLT, reduceCtorEq, k4, hd, h9, h11, isF_evs, hT, decL_enc Cod.dec_enc, hp2, hmake, List.length_map, hRl, Nat.zero_add, Nat.le_refl, List.drop_zero, he, he2, beq_self_eq_true, hrd, hss]
    · intro i _ x xs hd hlt hx hinv
      have hw := wrap_nat hlt (by omega)
      have hbx : badE (x :: xs) = bif evS x != 0 then evS x else badE xs := rfl
      simp +contextual only [go_sem, ↓reduceIte, Nat.reduceEqDiff, Nat.reduceAdd, Nat.reduceLeDiff, Nat.reduceLT, reduceCtorEq, k4, lt_dec hlt, hx, hw, h10, List.length_map, List.getElem?_map, Option.map_some, Int.natCast_nonneg, Int.toNat_natCast]
      intro hb
      refine ⟨(), ?_, .back rfl ?_⟩
      · rw [← hinv, hbx, hb, cond_false]
      · simp +contextual only [go_sem, ↓reduceIte, Nat.reduceEqDiff, Nat.reduceAdd, Nat.reduceLeDiff, Nat.reduceLT, reduceCtorEq]
end Go.Proofs.Ytoccifhckpjfaaa
