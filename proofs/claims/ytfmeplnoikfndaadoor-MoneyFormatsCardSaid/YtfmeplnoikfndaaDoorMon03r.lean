/- Amounts: parts, as the program makes them. -/
import Derived.Test.YtfmeplnoikfndaaDoorMon03q
namespace Go.Proofs.YtfmeplnoikfndaaDoor
set_option linter.all false
open Go.Idl
set_option linter.all false
set_option maxHeartbeats 16000000
set_option maxRecDepth 100000
attribute [local go_sem] Tryd.underlying3 Tryd.underlying45 Tryd.underlying74 Tryd.underlying5 Tryd.underlying9 Tryd.underlying4 Tryd.underlying22
theorem con18 {Φ : Specs} (hg : Idl.Good Tryd.prog Φ) (h25 : Φ 25 = some SSize) (h26 : Φ 26 = some SMul) (h27 : Φ 27 = some SDiv)
    (hss : Φ 36 = none) (hst : Φ 45 = none) (hin : Φ 50 = none) (hsw : Φ 71 = none) (hro : Φ 61 = none) (hsy : Φ 51 = none) :
    Contract Tryd.prog 18 SSplit := by
  refine conT hg k18 ic18 (by decide) fun C t r h => ?_
  obtain ⟨a, l, u⟩ := t
  dsimp only at h
  split at h
  case isFalse => cases h
  rename_i hn
  cases h
  obtain ⟨hn1, hnI⟩ := hn
  unfold splitS
  by_cases h1 : 512 < l.length
  · have t1 : decide ((l.length : Int) > 512) = true := by simp; omega
    rw [if_pos h1]
    simp +contextual only [go_sem, ↓reduceIte, Nat.reduceEqDiff, Nat.reduceAdd, Nat.reduceLeDiff, Nat.reduceLT, reduceCtorEq, c18, k18, List.length_map, t1]
    try rfl
  have t1 : decide ((l.length : Int) > 512) = false := by simp; omega
  rw [if_neg h1]
  by_cases h2 : a < -1099511627776 ∨ 1099511627776 < a
  · rw [if_pos h2]
    by_cases h3 : a < -1099511627776
    · have t2 : decide (a < -1099511627776) = true := decide_eq_true h3
      simp +contextual only [go_sem, ↓reduceIte, Nat.reduceEqDiff, Nat.reduceAdd, Nat.reduceLeDiff, Nat.reduceLT, reduceCtorEq, c18, k18, List.length_map, t1, t2]
      try rfl
    · have t2 : decide (a < -1099511627776) = false := decide_eq_false h3
      have t3 : decide (a > 1099511627776) = true := by simp; omega
      simp +contextual only [go_sem, ↓reduceIte, Nat.reduceEqDiff, Nat.reduceAdd, Nat.reduceLeDiff, Nat.reduceLT, reduceCtorEq, c18, k18, List.length_map, t1, t2, t3]
      try rfl
  rw [if_neg h2]
  have t2 : decide (a < -1099511627776) = false := by simp; omega
  have t3 : decide (a > 1099511627776) = false := by simp; omega
  simp +contextual only [go_sem, ↓reduceIte, Nat.reduceEqDiff, Nat.reduceAdd, Nat.reduceLeDiff, Nat.reduceLT, reduceCtorEq, c18, k18, List.length_map, t1, t2, t3]
  refine TriI.loopL hg k18 l (fun i (s : Int) => ⟨slotsL [(0, .sc (.int .i64 a)), (1, Cod.enc l), (4, .sc (.slice none 0 0)), (5, .sc (.int .i64 0)), (6, .sc (.int .i64 s)), (32, Cod.enc l), (33, .sc (.int .i64 l.length)), (34, .sc (.int .i64 i))], objsL [], 0⟩)
    (fun xs s => l.all okW = xs.all okW ∧ s + xs.sum = l.sum ∧ 0 ≤ s ∧ s ≤ 1099511627776 * ((l.length : Int) - xs.length)) 0 (.back rfl ?_) ⟨rfl, by omega, by omega, by omega⟩ ?_ ?_
  · simp +contextual only [go_sem, ↓reduceIte, Nat.reduceEqDiff, Nat.reduceAdd, Nat.reduceLeDiff, Nat.reduceLT, reduceCtorEq, List.length_map]
    rfl
  · rintro s ⟨ha, hs, hs0, hs1⟩
    rw [List.all_nil] at ha
    rw [List.sum_nil, Int.add_zero] at hs
    subst hs
    rw [if_neg (by rw [ha]; decide)]
    by_cases h0 : l.sum = 0
    · have t4 : (l.sum == 0) = true := by simp [h0]
      rw [if_pos h0]
      simp +contextual only [go_sem, ↓reduceIte, Nat.reduceEqDiff, Nat.reduceAdd, Nat.reduceLeDiff, Nat.reduceLT, reduceCtorEq, k18, Int.lt_irrefl, decide_false, t4]
      try rfl
    · have t4 : (l.sum == 0) = false := by simp [h0]
      rw [if_neg h0]
      have haI : inI a := by unfold inI; omega
      have hns := nats_sum ha
      have wA : IntKind.i64.wrap ((a.natAbs : Nat) : Int) = ((a.natAbs : Nat) : Int) := by rw [IntKind.wrap_i64]; omega
      have b1 : l.length ≤ 4294967296 := by omega
      have b2 : l.length * 8 ≤ 281474976710656 := by omega
      have b3 : l.length * 16 ≤ 281474976710656 := by omega
      have b4 : (0 : Int) ≤ (l.length : Int) := by omega
      have b5 : (l.length : Int) ≤ 4294967296 := by omega
      have b6 : 8 * l.length ≤ 281474976710656 := by omega
      have b7 : 16 * l.length ≤ 281474976710656 := by omega
      simp +contextual only [go_sem, ↓reduceIte, Nat.reduceEqDiff, Nat.reduceAdd, Nat.reduceLeDiff, Nat.reduceLT, reduceCtorEq, k18, Int.lt_irrefl, decide_false, t4, h25, haI, wA, List.length_map, b1, b2, b3, b4, b5, b6, b7, Int.toNat_natCast, Int.le_refl]
      obtain ⟨A, hA⟩ : ∃ A, A = a.natAbs := ⟨_, rfl⟩
      obtain ⟨ws, hws⟩ : ∃ ws, ws = natsW l := ⟨_, rfl⟩
      obtain ⟨n, hnl⟩ : ∃ n, n = l.length := ⟨_, rfl⟩
      have hwl : ws.length = n := by rw [hws, nats_len, hnl]
      obtain ⟨S, hS⟩ : ∃ S, S = ws.sum := ⟨_, rfl⟩
      rw [← hws] at hns
      rw [← hS] at hns
      have hS0 : 0 < S := by omega
      have hSp : 0 < ws.sum := by omega
      have hSb := sum_le_all ha
      have hSu : S < 18446744073709551616 := by omega
      have hSi : inU ⟨S⟩ := hSu
      have hAb : A ≤ 1099511627776 := by omega
      have hAu : inU ⟨A⟩ := by show A < 18446744073709551616; omega
      have wS : IntKind.u64.wrap l.sum = ((S : Nat) : Int) := by rw [IntKind.wrap_u64]; omega
      rw [← hA, ← hnl]
      refine TriI.loopL hg k18 l (fun i (_ : Unit) => ⟨slotsL [(6, .sc (.int .i64 l.sum)), (9, .sc (.int .u64 (A : Nat))), (10, .sc (.bool (decide (a < 0)))), (11, .sc (.int .i64 (leftI A ws i : Nat))), (12, .own 0 0 n), (13, .own 1 0 n), (63, Cod.enc l), (64, .sc (.int .i64 n)), (65, .sc (.int .i64 i))],
        objsL [.live 1 (filL (fun j => .sc (.int .i64 ((quoF A ws j : Nat) : Int))) (.sc (.int .i64 0)) n i) true, .live 2 (filL (fun j => .agg (cellsR (restF A ws) j)) (.agg [.sc (.int .i64 0), .sc (.int .u64 0)]) n i) true], 2⟩) (fun _ _ => True) () (.back rfl ?_) trivial ?_ ?_
      · have e0 : leftI A ws 0 = A := by simp [leftI]
        simp +contextual only [go_sem, ↓reduceIte, Nat.reduceEqDiff, Nat.reduceAdd, Nat.reduceLeDiff, Nat.reduceLT, reduceCtorEq, e0, fil_zero]
        exact ⟨rfl, rep_low _ _ _ rfl, rep_low _ _ _ rfl⟩
      · intro _ _
        have e1 : leftI A ws l.length = leftQ A ws := by rw [← hnl, ← hwl, left_all]
        rw [← hnl] at e1
        rw [← hnl]
        simp +contextual only [go_sem, ↓reduceIte, Nat.reduceEqDiff, Nat.reduceAdd, Nat.reduceLeDiff, Nat.reduceLT, reduceCtorEq, k18, Int.lt_irrefl, decide_false, e1, fil_all, hss]
        refine ctSS hg hst hin hsw hro hsy (elsR (restF A ws)) (cmpT3 hg (restF A ws)) cmp_a cmp_b cmp_c (by omega) rfl fun T hT hTs => ?_
        have hTb : T.Pairwise fun x y => bet (restF A ws) x y = true := hTs.imp fun h => cmpR_bet h
        rw [← hwl] at hT
        have hlq := (left_nz A hSp).2
        have hq1 : (0 : Int) ≤ ((leftQ A ws : Nat) : Int) := Int.natCast_nonneg _
        have hq2 : ((leftQ A ws : Nat) : Int) ≤ (n : Int) := by omega
        have hTl : T.length = n := by have := hT.length_eq; simp at this; omega
        have hq3 : leftQ A ws ≤ n := by omega
        simp +contextual only [go_sem, ↓reduceIte, Nat.reduceEqDiff, Nat.reduceAdd, Nat.reduceLeDiff, Nat.reduceLT, reduceCtorEq, k18, hq1, hq2, hq3, Int.toNat_natCast, Nat.zero_add, Int.le_refl, Option.map_none, Nat.zero_le, Nat.sub_zero]
        have hTk : (T.take (leftQ A ws)).length = leftQ A ws := by rw [List.length_take, hTl]; omega
        have hl2 : LowC C.ctx 2 := LowC.top _ _
        refine TriI.loopL hg k18 (T.take (leftQ A ws)) (fun i (_ : Unit) => ⟨slotsL [(10, .sc (.bool (decide (a < 0)))), (12, .own 0 0 n), (107, .own 1 0 (leftQ A ws)), (108, .sc (.int .i64 (leftQ A ws : Nat))), (109, .sc (.int .i64 i))],
          objsL [.live 1 ((List.range n).map fun j => .sc (.int .i64 ((partK A ws i j : Nat) : Int))) true, .live 2 (row (cellsR (restF A ws)) T) true], 2⟩) (fun _ _ => True) () (.back rfl ?_) trivial ?_ ?_
        · simp +contextual only [go_sem, ↓reduceIte, Nat.reduceEqDiff, Nat.reduceAdd, Nat.reduceLeDiff, Nat.reduceLT, reduceCtorEq, partK_zero]
          refine ⟨rfl, map_low _ _ _ fun _ => rfl, map_low _ _ _ fun _ => rfl⟩
        · intro _ _
          rw [hTk]
          have hpA : ∀ j, partK A ws (leftQ A ws) j = partF A ws j := partK_all A ws
          have fin : (List.range n).map (fun j => V.sc (.int .i64 (sgnP a (partF A ws j)))) = (partsS a l).map Cod.enc := by
            rw [partsS, List.map_map, ← hA, ← hws, ← hnl]; rfl
          have gl : ((partsS a l).map Cod.enc).length = n := by rw [List.length_map, partsS, List.length_map, List.length_range, hnl]
          have gF : ((partsS a l).map Cod.enc).all V.isF = true := List.all_eq_true.2 fun x hx => by
            obtain ⟨j, _, rfl⟩ := List.mem_map.1 hx
            rfl
          have gt : ((partsS a l).map Cod.enc).take n = (partsS a l).map Cod.enc := List.take_of_length_le (by omega)
          by_cases hneg : a < 0
          · have t5 := decide_eq_true hneg
            simp +contextual only [go_sem, ↓reduceIte, Nat.reduceEqDiff, Nat.reduceAdd, Nat.reduceLeDiff, Nat.reduceLT, reduceCtorEq, k18, Int.lt_irrefl, decide_false, hpA, t5, List.length_map, List.length_range]
            refine TriI.loopA hg k18 (fun k : Nat => ⟨slotsL [(12, .own 0 0 n), (123, .sc (.int .i64 n)), (124, .sc (.int .i64 k))], objsL [.live 1 ((List.range n).map fun j => .sc (.int .i64 (if j < k then -((partF A ws j : Nat) : Int) else ((partF A ws j : Nat) : Int)))) true, .live 2 (row (cellsR (restF A ws)) T) true], 2⟩)
              (fun k => k ≤ n) (fun k => n - k) 0 (.back rfl ?_) (Nat.zero_le _) ?_
            · simp +contextual only [go_sem, ↓reduceIte, Nat.reduceEqDiff, Nat.reduceAdd, Nat.reduceLeDiff, Nat.reduceLT, reduceCtorEq, Nat.not_lt_zero, if_false]
              refine ⟨rfl, map_low _ _ _ fun _ => rfl, map_low _ _ _ fun _ => rfl⟩
            · intro k hk
              rcases Nat.lt_or_ge k n with hlt | hge
              · have hw := wrap_nat hlt (by omega)
                have f2 := rng_get (fun j => V.sc (.int .i64 (if j < k then -((partF A ws j : Nat) : Int) else ((partF A ws j : Nat) : Int)))) hlt
                rw [if_neg (Nat.lt_irrefl k)] at f2
                have f3 := map_set2 (fun j => V.sc (.int .i64 (if j < k then -((partF A ws j : Nat) : Int) else ((partF A ws j : Nat) : Int)))) (fun j => V.sc (.int .i64 (if j < k + 1 then -((partF A ws j : Nat) : Int) else ((partF A ws j : Nat) : Int)))) hlt (fun j hj hne => by
                  by_cases h : j < k
                  · rw [if_pos h, if_pos (by omega)]
                  · rw [if_neg h, if_neg (by omega)])
                rw [if_pos (Nat.lt_succ_self k)] at f3
                have hp := part_le (A := A) hSp (i := k) (by omega)
                have w1 : IntKind.i64.wrap (0 - ((partF A ws k : Nat) : Int)) = -((partF A ws k : Nat) : Int) := by rw [IntKind.wrap_i64]; omega
                have hli : (k : Int) < (n : Int) := by omega
                simp +contextual only [go_sem, ↓reduceIte, Nat.reduceEqDiff, Nat.reduceAdd, Nat.reduceLeDiff, Nat.reduceLT, reduceCtorEq, k18, lt_dec hlt, Int.natCast_nonneg, Int.toNat_natCast, Nat.zero_add, f2, f3, w1, hli]
                refine ⟨k + 1, by dsimp only; omega, by omega, .back rfl ?_⟩
                simp +contextual only [go_sem, ↓reduceIte, Nat.reduceEqDiff, Nat.reduceAdd, Nat.reduceLeDiff, Nat.reduceLT, reduceCtorEq, hw]
                exact ⟨map_low _ _ _ fun _ => rfl, map_low _ _ _ fun _ => rfl⟩
              · have e : k = n := by omega
                subst e
                have fin2 : ((List.range k).map fun j => V.sc (.int .i64 (if j < k then -((partF A ws j : Nat) : Int) else ((partF A ws j : Nat) : Int)))) = (partsS a l).map Cod.enc := by
                  rw [← fin]
                  apply List.map_congr_left
                  intro j hj
                  rw [List.mem_range] at hj
                  rw [if_pos hj, sgnP, if_pos hneg]
                simp +contextual only [go_sem, ↓reduceIte, Nat.reduceEqDiff, Nat.reduceAdd, Nat.reduceLeDiff, Nat.reduceLT, reduceCtorEq, k18, Int.lt_irrefl, decide_false, fin2, gl, gF, gt, Nat.zero_add, Nat.le_refl, and_self]
                try rfl
          · have t5 := decide_eq_false hneg
            have fin2 : ((List.range n).map fun j => V.sc (.int .i64 ((partF A ws j : Nat) : Int))) = (partsS a l).map Cod.enc := by
              rw [← fin]
              apply List.map_congr_left
              intro j hj
              rw [sgnP, if_neg hneg]
            simp +contextual only [go_sem, ↓reduceIte, Nat.reduceEqDiff, Nat.reduceAdd, Nat.reduceLeDiff, Nat.reduceLT, reduceCtorEq, k18, Int.lt_irrefl, decide_false, hpA, t5, fin2, gl, gF, gt, Nat.zero_add, Nat.le_refl, and_self]
            try rfl
        · intro i _ x xs hd hlt hx _
          rw [hTk] at hlt
          have hw := wrap_nat hlt (by omega)
          have hTx : T[i]? = some x := by
            rw [List.getElem?_take, if_pos hlt] at hx; exact hx
          have hrk := rank_at hT hTb hTx
          have hxn : x < n := by
            have := hT.mem_iff.1 (List.mem_of_getElem? hTx)
            rw [List.mem_range] at this; omega
          obtain ⟨p1, p2⟩ := partK_at hrk
          have hqx := quo_le (A := A) hSp (i := x) (by omega)
          have w1 : IntKind.i64.wrap (((quoF A ws x : Nat) : Int) + 1) = ((quoF A ws x + 1 : Nat) : Int) := by rw [IntKind.wrap_i64]; omega
          have f1 := row_get (h := cellsR (restF A ws)) hTx
          have f2 := rng_get (fun j => V.sc (.int .i64 ((partK A ws i j : Nat) : Int))) hxn
          rw [p1] at f2
          have f3 := map_set2 (fun j => V.sc (.int .i64 ((partK A ws i j : Nat) : Int))) (fun j => V.sc (.int .i64 ((partK A ws (i + 1) j : Nat) : Int))) hxn (fun j hj hne => by rw [partK_ne hrk (by omega) (by omega) hne])
          rw [p2] at f3
          have hli : (i : Int) < ((leftQ A ws : Nat) : Int) := by omega
          have hlx : (x : Int) < (n : Int) := by omega
          simp +contextual only [go_sem, ↓reduceIte, Nat.reduceEqDiff, Nat.reduceAdd, Nat.reduceLeDiff, Nat.reduceLT, reduceCtorEq, k18, lt_dec hlt, Int.natCast_nonneg, Int.toNat_natCast, Nat.zero_add, f1, f2, f3, w1, hli, hlx, cellsR]
          refine ⟨(), trivial, .back rfl ?_⟩
          simp +contextual only [go_sem, ↓reduceIte, Nat.reduceEqDiff, Nat.reduceAdd, Nat.reduceLeDiff, Nat.reduceLT, reduceCtorEq, hw]
          exact ⟨map_low _ _ _ fun _ => rfl, map_low _ _ _ fun _ => rfl⟩
      · intro i _ x xs hd hlt hx _
        obtain ⟨g1, g2, g3, g4⟩ := nats_get ha hx
        rw [← hws] at g1
        rw [← hnl] at hlt
        have hw := wrap_nat hlt (by omega)
        obtain ⟨X, hX⟩ : ∃ X, X = x.toNat := ⟨_, rfl⟩
        rw [← hX] at g1 g4
        have hXb : X ≤ 1099511627776 := by omega
        have hXu : inU ⟨X⟩ := by show X < 18446744073709551616; omega
        have wx : IntKind.u64.wrap x = ((X : Nat) : Int) := by rw [IntKind.wrap_u64]; omega
        have hXS : X ≤ S := by
          rw [hS, ← g1]
          exact le_sum (i := i) (by simp [List.getD, hwl, hlt])
        have hhi := hi_lt (A := A) (by omega) hXS hS0
        have hhu : inU ⟨A * X / 18446744073709551616⟩ := Nat.lt_trans hhi hSu
        have hlu : inU ⟨A * X % 18446744073709551616⟩ := Nat.mod_lt _ (by decide)
        have hdm : A * X / 18446744073709551616 * 18446744073709551616 + A * X % 18446744073709551616 = A * X := by omega
        have eq : A * X / S = quoF A ws i := by rw [quoF, g1, hS]
        have er : A * X % S = restF A ws i := by rw [restF, g1, hS]
        obtain ⟨ls1, ls2⟩ := left_step A hSp (i := i) (by omega)
        have hq := quo_le (A := A) hSp (i := i) (by omega)
        have hlb : leftI A ws i ≤ A := Nat.sub_le _ _
        have wq : IntKind.i64.wrap ((quoF A ws i : Nat) : Int) = ((quoF A ws i : Nat) : Int) := by rw [IntKind.wrap_i64]; omega
        have wl : IntKind.i64.wrap (((leftI A ws i : Nat) : Int) - ((quoF A ws i : Nat) : Int)) = ((leftI A ws (i + 1) : Nat) : Int) := by rw [IntKind.wrap_i64]; omega
        have f1 := fil_get (fun j => V.sc (.int .i64 ((quoF A ws j : Nat) : Int))) (V.sc (.int .i64 0)) hlt
        have f2 : (filL (fun j => V.sc (.int .i64 ((quoF A ws j : Nat) : Int))) (V.sc (.int .i64 0)) n i).set i (V.sc (.int .i64 ((quoF A ws i : Nat) : Int))) = filL (fun j => V.sc (.int .i64 ((quoF A ws j : Nat) : Int))) (V.sc (.int .i64 0)) n (i + 1) := fil_set _ _ hlt
        have f3 : (filL (fun j => V.sc (.int .i64 ((quoF A ws j : Nat) : Int))) (V.sc (.int .i64 0)) n (i + 1))[i]? = some (V.sc (.int .i64 ((quoF A ws i : Nat) : Int))) := fil_get_lt _ _ (by omega)
        have f4 := fil_get (fun j => V.agg (cellsR (restF A ws) j)) (V.agg [.sc (.int .i64 0), .sc (.int .u64 0)]) hlt
        have f5 : (filL (fun j => V.agg (cellsR (restF A ws) j)) (V.agg [.sc (.int .i64 0), .sc (.int .u64 0)]) n i).set i (V.agg [.sc (.int .i64 (i : Int)), .sc (.int .u64 (restF A ws i : Int))]) = filL (fun j => V.agg (cellsR (restF A ws) j)) (V.agg [.sc (.int .i64 0), .sc (.int .u64 0)]) n (i + 1) := fil_set _ _ hlt
        have hli : (i : Int) < (n : Int) := by omega
        simp +contextual only [go_sem, ↓reduceIte, Nat.reduceEqDiff, Nat.reduceAdd, Nat.reduceLeDiff, Nat.reduceLT, reduceCtorEq, k18, lt_dec hlt, hx, List.getElem?_map, Option.map_some, Int.natCast_nonneg, Int.toNat_natCast, Nat.zero_add, wx, wS, h26, h27, hAu, hXu, hhu, hlu, hSi, hhi, and_self, hdm, eq, er, wq, wl, f1, f2, f3, f4, f5, hli, true_and, and_true]
        refine ⟨(), trivial, .back rfl ?_⟩
        simp +contextual only [go_sem, ↓reduceIte, Nat.reduceEqDiff, Nat.reduceAdd, Nat.reduceLeDiff, Nat.reduceLT, reduceCtorEq, hw]
        exact ⟨fil_low _ _ _ _ _ (fun _ => rfl) rfl, fil_low _ _ _ _ _ (fun _ => rfl) rfl⟩
  · rintro i s x xs hd hlt hx ⟨ha, hs, hs0, hs1⟩
    have hw := wrap_nat hlt (by omega)
    have hxl : xs.length + 1 + i = l.length := by
      have := congrArg List.length hd
      simp at this; omega
    rw [List.sum_cons] at hs
    rw [List.length_cons] at hs1
    by_cases hxk : okW x = true
    · obtain ⟨x0, x1⟩ := okW_iff.1 hxk
      have d1 : decide (x < 0) = false := by simp; omega
      have d2 : decide (x > 1099511627776) = false := by simp; omega
      have w1 : IntKind.i64.wrap (s + x) = s + x := by rw [IntKind.wrap_i64]; omega
      simp +contextual only [go_sem, ↓reduceIte, Nat.reduceEqDiff, Nat.reduceAdd, Nat.reduceLeDiff, Nat.reduceLT, reduceCtorEq, k18, lt_dec hlt, hx, List.getElem?_map, Option.map_some, Int.natCast_nonneg, Int.toNat_natCast, d1, d2, w1]
      refine ⟨s + x, ⟨by rw [ha, List.all_cons, hxk]; rfl, by omega, by omega, by omega⟩, .back rfl ?_⟩
      simp +contextual only [go_sem, ↓reduceIte, Nat.reduceEqDiff, Nat.reduceAdd, Nat.reduceLeDiff, Nat.reduceLT, reduceCtorEq, hw]
    · have hxf : okW x = false := by simpa using hxk
      rw [List.all_cons, hxf, Bool.false_and] at ha
      rw [if_pos ha]
      by_cases hx0 : x < 0
      · have d1 := decide_eq_true hx0
        simp +contextual only [go_sem, ↓reduceIte, Nat.reduceEqDiff, Nat.reduceAdd, Nat.reduceLeDiff, Nat.reduceLT, reduceCtorEq, k18, lt_dec hlt, hx, List.getElem?_map, Option.map_some, Int.natCast_nonneg, Int.toNat_natCast, d1]
        try rfl
      · have d1 := decide_eq_false hx0
        have d2 : decide (x > 1099511627776) = true := by
          rw [okW] at hxf
          simp at hxf ⊢
          exact hxf (by omega)
        simp +contextual only [go_sem, ↓reduceIte, Nat.reduceEqDiff, Nat.reduceAdd, Nat.reduceLeDiff, Nat.reduceLT, reduceCtorEq, k18, lt_dec hlt, hx, List.getElem?_map, Option.map_some, Int.natCast_nonneg, Int.toNat_natCast, d1, d2]
        try rfl
end Go.Proofs.YtfmeplnoikfndaaDoor
