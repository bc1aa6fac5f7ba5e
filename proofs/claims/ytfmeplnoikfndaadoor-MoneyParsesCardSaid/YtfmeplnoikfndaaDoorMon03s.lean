/- Amounts: parts, as the reference makes them. -/
import Derived.Test.YtfmeplnoikfndaaDoorMon03q
namespace Go.Proofs.YtfmeplnoikfndaaDoor
set_option linter.all false
open Go.Idl
set_option linter.all false
set_option maxHeartbeats 16000000
set_option maxRecDepth 100000
attribute [local go_sem] Tryd.underlying3 Tryd.underlying45 Tryd.underlying74 Tryd.underlying5 Tryd.underlying9 Tryd.underlying4 Tryd.underlying22
def BestI (r : Nat → Nat) (tk : Nat → Bool) (i : Nat) (a : Int) : Prop := (a = -1 ∧ ∀ j, j < i → tk j = true) ∨ ∃ x : Nat, a = x ∧ x < i ∧ tk x = false ∧ ∀ j, j < i → tk j = false → j = x ∨ bet r x j = true
theorem BestI.skip {r : Nat → Nat} {tk : Nat → Bool} {i : Nat} {a : Int} (h : BestI r tk i a) (ht : tk i = true) : BestI r tk (i + 1) a := by
  rcases h with ⟨h1, h2⟩ | ⟨x, h1, h2, h3, h4⟩
  · left
    refine ⟨h1, fun j hj => ?_⟩
    rcases Nat.lt_or_ge j i with h | h
    · exact h2 j h
    · have : j = i := by omega
      subst this; exact ht
  · right
    refine ⟨x, h1, by omega, h3, fun j hj hjt => ?_⟩
    rcases Nat.lt_or_ge j i with h | h
    · exact h4 j h hjt
    · have : j = i := by omega
      subst this; rw [ht] at hjt; cases hjt
theorem BestI.first {r : Nat → Nat} {tk : Nat → Bool} {i : Nat} (h : ∀ j, j < i → tk j = true) (ht : tk i = false) : BestI r tk (i + 1) (i : Int) := by
  right
  refine ⟨i, rfl, by omega, ht, fun j hj hjt => ?_⟩
  rcases Nat.lt_or_ge j i with hh | hh
  · rw [h j hh] at hjt; cases hjt
  · exact .inl (by omega)
theorem BestI.turn {r : Nat → Nat} {tk : Nat → Bool} {i x : Nat} (h4 : ∀ j, j < i → tk j = false → j = x ∨ bet r x j = true) (hx : x < i) (ht : tk i = false) (hr : r x < r i) : BestI r tk (i + 1) (i : Int) := by
  right
  refine ⟨i, rfl, by omega, ht, fun j hj hjt => ?_⟩
  rcases Nat.lt_or_ge j i with hh | hh
  · right
    rw [bet_iff]
    rcases h4 j hh hjt with rfl | hb
    · exact .inl hr
    · rw [bet_iff] at hb
      omega
  · exact .inl (by omega)
theorem BestI.stay {r : Nat → Nat} {tk : Nat → Bool} {i x : Nat} (h4 : ∀ j, j < i → tk j = false → j = x ∨ bet r x j = true) (hx : x < i) (hxt : tk x = false) (hr : ¬ r x < r i) : BestI r tk (i + 1) (x : Int) := by
  right
  refine ⟨x, rfl, by omega, hxt, fun j hj hjt => ?_⟩
  rcases Nat.lt_or_ge j i with hh | hh
  · exact h4 j hh hjt
  · have : j = i := by omega
    subst this
    right
    rw [bet_iff]; omega
theorem best_rank {r : Nat → Nat} {n k : Nat} {a : Int} (hk : k < n) (h : BestI r (fun j => decide (rankR r n j < k)) n a) : ∃ x : Nat, a = x ∧ x < n ∧ rankR r n x = k := by
  rcases h with ⟨h1, h2⟩ | ⟨x, h1, h2, h3, h4⟩
  · obtain ⟨x, hx, hxk⟩ := rank_ex (r := r) hk
    have := h2 x hx
    simp [hxk] at this
  · refine ⟨x, h1, h2, rank_best hk h2 (by simpa using h3) fun y hy hyk => ?_⟩
    exact h4 y hy (by simpa using hyk)
theorem CallT.valH {P : Program} {C : Ctx} {f : FuncId} {vs : List V} {s : SF} {p : V → Prop} {K : V → SF → Prop} (hk : ∀ v, p v → K v s) (h : CallT P C f vs s fun v s' => p v ∧ s'.H = s.H) : CallT P C f vs s K := by
  refine ⟨h.1, fun tm w γ I args h1 h2 h3 => (h.2 tm w γ I args h1 h2 h3).mono ?_⟩
  rintro e w' ⟨u, v, s', e1, ⟨hp, hH⟩, γ', I', hS, hr⟩
  refine ⟨u, v, s, e1, hk v hp, γ', I', ?_, hr⟩
  rw [← hH]; exact hS
theorem ctGr {Φ : Specs} (hg : Idl.Good Tryd.prog Φ) {C : Ctx} {τ : Nat → V} {H : Heap} {n ri ti N : Nat} (r : Nat → Nat) (tk : Nat → Bool) (hN : N ≤ 1000000) (hR : H ri = .live 1 ((List.range N).map fun j => .sc (.int .u64 ((r j : Nat) : Int))) true) (hT : H ti = .live 1 ((List.range N).map fun j => .sc (.bool (tk j))) true)
    {Q : V → SF → Prop} (hk : ∀ a : Int, BestI r tk N a → Q (.sc (.int .i64 a)) ⟨τ, H, n⟩) : CallT Tryd.prog C 38 [.own ri 0 N, .own ti 0 N] ⟨τ, H, n⟩ Q := by
  refine CallT.valH (p := fun v => ∃ a : Int, v = .sc (.int .i64 a) ∧ BestI r tk N a) (fun v ⟨a, e, h⟩ => by rw [e]; exact hk a h) ?_
  refine CallT.of_walk hg k38 ic38 (by simp) fun C1 hlow1 => ?_
  simp +contextual only [go_sem, ↓reduceIte, Nat.reduceEqDiff, Nat.reduceAdd, Nat.reduceLeDiff, Nat.reduceLT, reduceCtorEq, c38, k38]
  refine TriI.loopA hg k38 (fun q : Nat × Int => ⟨slotsL [(0, .own ri 0 N), (1, .own ti 0 N), (5, .sc (.int .i64 q.2)), (6, .sc (.int .i64 (q.1 : Nat)))], H, n⟩)
    (fun q => q.1 ≤ N ∧ BestI r tk q.1 q.2) (fun q => N - q.1) (0, -1) (.slotsH ?_ ?_) ⟨Nat.zero_le _, .inl ⟨rfl, fun j hj => absurd hj (Nat.not_lt_zero _)⟩⟩ ?_
  · rfl
  · simp +contextual only [go_sem, ↓reduceIte, Nat.reduceEqDiff, Nat.reduceAdd, Nat.reduceLeDiff, Nat.reduceLT, reduceCtorEq]
    rfl
  · rintro ⟨i, a⟩ ⟨hi, hb⟩
    dsimp only at hi hb ⊢
    rcases Nat.lt_or_ge i N with hlt | hge
    · have hd1 : decide (((i : Nat) : Int) < (N : Int)) = true := by simp; omega
      have hli : (i : Int) < (N : Int) := by omega
      have hw := wrapP (i := i) (by omega)
      have f1 := rng_get (fun j => V.sc (.bool (tk j))) hlt
      have f2 := rng_get (fun j => V.sc (.int .u64 ((r j : Nat) : Int))) hlt
      cases ht : tk i with
      | true =>
        rw [ht] at f1
        simp +contextual only [go_sem, ↓reduceIte, Nat.reduceEqDiff, Nat.reduceAdd, Nat.reduceLeDiff, Nat.reduceLT, reduceCtorEq, k38, hd1, hli, Int.natCast_nonneg, Int.toNat_natCast, Nat.zero_add, hR, hT, f1]
        refine ⟨(by first | rfl | (simp [apartI, apartAll, clash, List.range, List.range.loop] <;> decide)), (i + 1, a), by dsimp only; omega, ⟨by dsimp only; omega, hb.skip ht⟩, .slotsH rfl ?_⟩
        simp +contextual only [go_sem, ↓reduceIte, Nat.reduceEqDiff, Nat.reduceAdd, Nat.reduceLeDiff, Nat.reduceLT, reduceCtorEq, hw]
      | false =>
        rw [ht] at f1
        rcases hb with ⟨rfl, hall⟩ | ⟨x, rfl, hx, hxt, h4⟩
        · have hd2 : decide ((-1 : Int) < 0) = true := rfl
          simp +contextual only [go_sem, ↓reduceIte, Nat.reduceEqDiff, Nat.reduceAdd, Nat.reduceLeDiff, Nat.reduceLT, reduceCtorEq, k38, hd1, hd2, hli, Int.natCast_nonneg, Int.toNat_natCast, Nat.zero_add, hR, hT, f1]
          refine ⟨(by first | rfl | (simp [apartI, apartAll, clash, List.range, List.range.loop] <;> decide)), (i + 1, (i : Int)), by dsimp only; omega, ⟨by dsimp only; omega, BestI.first hall ht⟩, .slotsH rfl ?_⟩
          simp +contextual only [go_sem, ↓reduceIte, Nat.reduceEqDiff, Nat.reduceAdd, Nat.reduceLeDiff, Nat.reduceLT, reduceCtorEq, hw]
        · have hd2 : decide ((x : Int) < 0) = false := by simp
          have hlx : (x : Int) < (N : Int) := by omega
          have f3 := rng_get (fun j => V.sc (.int .u64 ((r j : Nat) : Int))) (show x < N by omega)
          by_cases hr : r x < r i
          · have hd3 : decide (((r i : Nat) : Int) > ((r x : Nat) : Int)) = true := by simp; omega
            simp +contextual only [go_sem, ↓reduceIte, Nat.reduceEqDiff, Nat.reduceAdd, Nat.reduceLeDiff, Nat.reduceLT, reduceCtorEq, k38, hd1, hd2, hd3, hli, hlx, Int.natCast_nonneg, Int.toNat_natCast, Nat.zero_add, hR, hT, f1, f2, f3]
            refine ⟨(by first | rfl | (simp [apartI, apartAll, clash, List.range, List.range.loop] <;> decide)), (i + 1, (i : Int)), by dsimp only; omega, ⟨by dsimp only; omega, BestI.turn h4 hx ht hr⟩, .slotsH rfl ?_⟩
            simp +contextual only [go_sem, ↓reduceIte, Nat.reduceEqDiff, Nat.reduceAdd, Nat.reduceLeDiff, Nat.reduceLT, reduceCtorEq, hw]
          · have hd3 : decide (((r i : Nat) : Int) > ((r x : Nat) : Int)) = false := by simp; omega
            simp +contextual only [go_sem, ↓reduceIte, Nat.reduceEqDiff, Nat.reduceAdd, Nat.reduceLeDiff, Nat.reduceLT, reduceCtorEq, k38, hd1, hd2, hd3, hli, hlx, Int.natCast_nonneg, Int.toNat_natCast, Nat.zero_add, hR, hT, f1, f2, f3]
            refine ⟨(by first | rfl | (simp [apartI, apartAll, clash, List.range, List.range.loop] <;> decide)), (i + 1, (x : Int)), by dsimp only; omega, ⟨by dsimp only; omega, BestI.stay h4 hx hxt hr⟩, .slotsH rfl ?_⟩
            simp +contextual only [go_sem, ↓reduceIte, Nat.reduceEqDiff, Nat.reduceAdd, Nat.reduceLeDiff, Nat.reduceLT, reduceCtorEq, hw]
    · have e : i = N := by omega
      subst e
      have hd1 : decide (((i : Nat) : Int) < (i : Int)) = false := by simp
      simp +contextual only [go_sem, ↓reduceIte, Nat.reduceEqDiff, Nat.reduceAdd, Nat.reduceLeDiff, Nat.reduceLT, reduceCtorEq, k38, hd1]
      exact ⟨a, rfl, hb⟩
theorem okE_u (z : Int) : okE 1 (.sc (.int .u64 z)) = true := rfl
theorem okE_i (z : Int) : okE 1 (.sc (.int .i64 z)) = true := rfl
theorem rng_app {α : Type} (f : Nat → α) (i : Nat) : (List.range i).map f ++ [f i] = (List.range (i + 1)).map f := by rw [List.range_succ, List.map_append]; rfl
theorem con19 {Φ : Specs} (hg : Idl.Good Tryd.prog Φ) (h31 : Φ 31 = some SMag) (h30 : Φ 30 = some SMul) (h32 : Φ 32 = some SDivR) (hgr : Φ 38 = none) : Contract Tryd.prog 19 SSplit := by
  refine conT hg k19 ic19 (by decide) fun C t r h => ?_
  obtain ⟨a, l, u⟩ := t
  dsimp only at h
  split at h
  case isFalse => cases h
  rename_i hn
  cases h
  obtain ⟨hn1, hnI⟩ := hn
  unfold splitS
  by_cases h1 : 512 < l.length
  · have t1 : decide ((l.length : Int) > 512) = true := by simp; omega
    rw [if_pos h1]
    simp +contextual only [go_sem, ↓reduceIte, Nat.reduceEqDiff, Nat.reduceAdd, Nat.reduceLeDiff, Nat.reduceLT, reduceCtorEq, c19, k19, List.length_map, t1]
    try rfl
  have t1 : decide ((l.length : Int) > 512) = false := by simp; omega
  rw [if_neg h1]
  by_cases h2 : a < -1099511627776 ∨ 1099511627776 < a
  · rw [if_pos h2]
    by_cases h3 : a < -1099511627776
    · have t2 : decide (a < -1099511627776) = true := decide_eq_true h3
      simp +contextual only [go_sem, ↓reduceIte, Nat.reduceEqDiff, Nat.reduceAdd, Nat.reduceLeDiff, Nat.reduceLT, reduceCtorEq, c19, k19, List.length_map, t1, t2]
      try rfl
    · have t2 : decide (a < -1099511627776) = false := decide_eq_false h3
      have t3 : decide (a > 1099511627776) = true := by simp; omega
      simp +contextual only [go_sem, ↓reduceIte, Nat.reduceEqDiff, Nat.reduceAdd, Nat.reduceLeDiff, Nat.reduceLT, reduceCtorEq, c19, k19, List.length_map, t1, t2, t3]
      try rfl
  rw [if_neg h2]
  have t2 : decide (a < -1099511627776) = false := by simp; omega
  have t3 : decide (a > 1099511627776) = false := by simp; omega
  simp +contextual only [go_sem, ↓reduceIte, Nat.reduceEqDiff, Nat.reduceAdd, Nat.reduceLeDiff, Nat.reduceLT, reduceCtorEq, c19, k19, List.length_map, t1, t2, t3]
  refine TriI.loopL hg k19 l (fun i (s : Int) => ⟨slotsL [(0, .sc (.int .i64 a)), (1, Cod.enc l), (4, .sc (.slice none 0 0)), (5, .sc (.int .i64 0)), (6, .sc (.int .u64 s)), (7, .sc (.int .i64 i))], objsL [], 0⟩)
    (fun xs s => l.all okW = xs.all okW ∧ s + xs.sum = l.sum ∧ 0 ≤ s ∧ s ≤ 1099511627776 * ((l.length : Int) - xs.length)) 0 (.back rfl ?_) ⟨rfl, by omega, by omega, by omega⟩ ?_ ?_
  · simp +contextual only [go_sem, ↓reduceIte, Nat.reduceEqDiff, Nat.reduceAdd, Nat.reduceLeDiff, Nat.reduceLT, reduceCtorEq, List.length_map]
    rfl
  · rintro s ⟨ha, hs, hs0, hs1⟩
    rw [List.all_nil] at ha
    rw [List.sum_nil, Int.add_zero] at hs
    subst hs
    rw [if_neg (by rw [ha]; decide)]
    by_cases h0 : l.sum = 0
    · have t4 : (l.sum == 0) = true := by simp [h0]
      rw [if_pos h0]
      simp +contextual only [go_sem, ↓reduceIte, Nat.reduceEqDiff, Nat.reduceAdd, Nat.reduceLeDiff, Nat.reduceLT, reduceCtorEq, k19, List.length_map, Int.lt_irrefl, decide_false, t4]
      try rfl
    · have t4 : (l.sum == 0) = false := by simp [h0]
      rw [if_neg h0]
      have haI : inI a := by unfold inI; omega
      have hns := nats_sum ha
      obtain ⟨A, hA⟩ : ∃ A, A = a.natAbs := ⟨_, rfl⟩
      obtain ⟨ws, hws⟩ : ∃ ws, ws = natsW l := ⟨_, rfl⟩
      obtain ⟨n, hnl⟩ : ∃ n, n = l.length := ⟨_, rfl⟩
      have hwl : ws.length = n := by rw [hws, nats_len, hnl]
      obtain ⟨S, hS⟩ : ∃ S, S = ws.sum := ⟨_, rfl⟩
      rw [← hws] at hns
      rw [← hS] at hns
      have hS0 : 0 < S := by omega
      have hSp : 0 < ws.sum := by omega
      have hSb := sum_le_all ha
      have hSu : S < 18446744073709551616 := by omega
      have hSi : inU ⟨S⟩ := hSu
      have hAb : A ≤ 1099511627776 := by omega
      have hAu : inU ⟨A⟩ := by show A < 18446744073709551616; omega
      simp +contextual only [go_sem, ↓reduceIte, Nat.reduceEqDiff, Nat.reduceAdd, Nat.reduceLeDiff, Nat.reduceLT, reduceCtorEq, k19, List.length_map, Int.lt_irrefl, decide_false, t4, h31, haI, ← hA]
      rw [← hns]
      refine TriI.loopL hg k19 l (fun i (_ : Unit) => ⟨slotsL [(0, .sc (.int .i64 a)), (1, Cod.enc l), (6, .sc (.int .u64 (S : Nat))), (8, .sc (.int .u64 (leftI A ws i : Nat))), (9, .own 0 0 i), (10, .own 1 0 i), (11, .sc (.int .i64 i))],
        objsL [.live 1 ((List.range i).map fun j => .sc (.int .u64 ((quoF A ws j : Nat) : Int))) true, .live 1 ((List.range i).map fun j => .sc (.int .u64 ((restF A ws j : Nat) : Int))) true], 2⟩) (fun _ _ => True) () (.ren [none, none] rfl rfl 0 ?_) trivial ?_ ?_
      · have e0 : leftI A ws 0 = A := by simp [leftI]
        simp +contextual only [go_sem, ↓reduceIte, Nat.reduceEqDiff, Nat.reduceAdd, Nat.reduceLeDiff, Nat.reduceLT, reduceCtorEq, e0]
        exact ⟨rfl, rfl, rfl⟩
      · intro _ _
        have e1 : leftI A ws l.length = leftQ A ws := by rw [← hnl, ← hwl, left_all]
        rw [← hnl] at e1
        rw [← hnl]
        have b1 : l.length ≤ 4294967296 := by omega
        have b4 : (0 : Int) ≤ (n : Int) := by omega
        have b5 : (n : Int) ≤ 4294967296 := by omega
        have b6 : 1 * n ≤ 281474976710656 := by omega
        simp +contextual only [go_sem, ↓reduceIte, Nat.reduceEqDiff, Nat.reduceAdd, Nat.reduceLeDiff, Nat.reduceLT, reduceCtorEq, k19, List.length_map, ← hnl, Int.lt_irrefl, decide_false, e1, b4, b5, b6, Int.toNat_natCast, Int.le_refl]
        have hl3 : LowC C.ctx 3 := LowC.top _ _
        have hlq := (left_nz A hSp).2
        obtain ⟨L, hL⟩ : ∃ L, L = leftQ A ws := ⟨_, rfl⟩
        rw [← hL] at hlq ⊢
        have hLA : L ≤ A := by rw [hL]; exact Nat.sub_le _ _
        refine TriI.loopA hg k19 (fun k : Nat => ⟨slotsL [(0, .sc (.int .i64 a)), (8, .sc (.int .u64 ((L - k : Nat) : Int))), (9, .own 0 0 n), (10, .own 1 0 n), (17, .own 2 0 n)],
          objsL [.live 1 ((List.range n).map fun j => .sc (.int .u64 ((partK A ws k j : Nat) : Int))) true, .live 1 ((List.range n).map fun j => .sc (.int .u64 ((restF A ws j : Nat) : Int))) true, .live 1 ((List.range n).map fun j => .sc (.bool (decide (rankR (restF A ws) n j < k)))) true], 3⟩)
          (fun k => k ≤ L) (fun k => L - k) 0 (.back rfl ?_) (Nat.zero_le _) ?_
        · have e2 : (List.range n).map (fun j => V.sc (.bool (decide (rankR (restF A ws) n j < 0)))) = List.replicate n (V.sc (.bool false)) := by
            apply List.ext_getElem?
            intro i
            rw [List.getElem?_map, List.getElem?_replicate]
            by_cases h : i < n <;> simp [h]
          simp +contextual only [go_sem, ↓reduceIte, Nat.reduceEqDiff, Nat.reduceAdd, Nat.reduceLeDiff, Nat.reduceLT, reduceCtorEq, partK_zero, e2, Nat.sub_zero]
          exact ⟨map_low _ _ _ fun _ => rfl, map_low _ _ _ fun _ => rfl, rep_low _ _ _ rfl⟩
        · intro k hk
          rcases Nat.lt_or_ge k L with hlt | hge
          · have d1 : decide (((L - k : Nat) : Int) > 0) = true := by simp; omega
            simp +contextual only [go_sem, ↓reduceIte, Nat.reduceEqDiff, Nat.reduceAdd, Nat.reduceLeDiff, Nat.reduceLT, reduceCtorEq, k19, d1, hgr]
            refine ctGr hg (restF A ws) (fun j => decide (rankR (restF A ws) n j < k)) (by omega) rfl rfl fun y hy => ?_
            obtain ⟨x, rfl, hxn, hrk⟩ := best_rank (by omega) hy
            have hrk' : rankR (restF A ws) ws.length x = k := by rw [hwl]; exact hrk
            obtain ⟨p1, p2⟩ := partK_at hrk'
            have hqx := quo_le (A := A) hSp (i := x) (by omega)
            have w1 : IntKind.u64.wrap (((quoF A ws x : Nat) : Int) + 1) = ((quoF A ws x + 1 : Nat) : Int) := by rw [IntKind.wrap_u64]; omega
            have w2 : IntKind.u64.wrap (((L - k : Nat) : Int) - 1) = ((L - (k + 1) : Nat) : Int) := by rw [IntKind.wrap_u64]; omega
            have f2 := rng_get (fun j => V.sc (.int .u64 ((partK A ws k j : Nat) : Int))) hxn
            rw [p1] at f2
            have f3 := map_set2 (fun j => V.sc (.int .u64 ((partK A ws k j : Nat) : Int))) (fun j => V.sc (.int .u64 ((partK A ws (k + 1) j : Nat) : Int))) hxn (fun j hj hne => by rw [partK_ne hrk' (by omega) (by omega) hne])
            rw [p2] at f3
            have f4 := rng_get (fun j => V.sc (.bool (decide (rankR (restF A ws) n j < k)))) hxn
            have f5 := map_set2 (fun j => V.sc (.bool (decide (rankR (restF A ws) n j < k)))) (fun j => V.sc (.bool (decide (rankR (restF A ws) n j < k + 1)))) hxn (fun j hj hne => by
              have hne' : rankR (restF A ws) n j ≠ k := fun e => hne (rank_inj hj hxn (e.trans hrk.symm))
              have : decide (rankR (restF A ws) n j < k + 1) = decide (rankR (restF A ws) n j < k) := decide_eq_decide.2 (by omega)
              rw [this])
            rw [hrk, decide_eq_true (Nat.lt_succ_self k)] at f5
            have d2 : decide ((x : Int) < 0) = false := by simp
            have hlx : (x : Int) < (n : Int) := by omega
            simp +contextual only [go_sem, ↓reduceIte, Nat.reduceEqDiff, Nat.reduceAdd, Nat.reduceLeDiff, Nat.reduceLT, reduceCtorEq, k19, d2, Int.natCast_nonneg, Int.toNat_natCast, Nat.zero_add, f2, f3, f4, f5, w1, w2, hlx]
            refine ⟨k + 1, by dsimp only; omega, by omega, .back rfl ?_⟩
            simp +contextual only [go_sem, ↓reduceIte, Nat.reduceEqDiff, Nat.reduceAdd, Nat.reduceLeDiff, Nat.reduceLT, reduceCtorEq]
            exact ⟨map_low _ _ _ fun _ => rfl, map_low _ _ _ fun _ => rfl, map_low _ _ _ fun _ => rfl⟩
          · have e : k = L := by omega
            subst e
            have d1 : decide (((k - k : Nat) : Int) > 0) = false := by simp
            have hpA : ∀ j, partK A ws k j = partF A ws j := fun j => by rw [hL]; exact partK_all A ws j
            simp +contextual only [go_sem, ↓reduceIte, Nat.reduceEqDiff, Nat.reduceAdd, Nat.reduceLeDiff, Nat.reduceLT, reduceCtorEq, k19, d1, hpA]
            refine TriI.loopA hg k19 (fun i : Nat => ⟨slotsL [(0, .sc (.int .i64 a)), (9, .own 0 0 n), (19, .own 1 0 i), (20, .sc (.int .i64 i))],
              objsL [.live 1 ((List.range n).map fun j => .sc (.int .u64 ((partF A ws j : Nat) : Int))) true, .live 1 ((List.range i).map fun j => .sc (.int .i64 (sgnP a (partF A ws j)))) true], 2⟩)
              (fun i => i ≤ n) (fun i => n - i) 0 (.ren [some 0, none] rfl rfl 1 ?_) (Nat.zero_le _) ?_
            · simp +contextual only [go_sem, ↓reduceIte, Nat.reduceEqDiff, Nat.reduceAdd, Nat.reduceLeDiff, Nat.reduceLT, reduceCtorEq]
              exact ⟨rfl, map_low _ _ _ fun _ => rfl, rfl⟩
            · intro i hi
              rcases Nat.lt_or_ge i n with hlt | hge
              · have d3 : decide ((i : Int) < (n : Int)) = true := by simp; omega
                have hli : (i : Int) < (n : Int) := by omega
                have hw := wrap_nat hlt (by omega)
                have hp := part_le (A := A) hSp (i := i) (by omega)
                have f2 := rng_get (fun j => V.sc (.int .u64 ((partF A ws j : Nat) : Int))) hlt
                have w1 : IntKind.i64.wrap ((partF A ws i : Nat) : Int) = ((partF A ws i : Nat) : Int) := by rw [IntKind.wrap_i64]; omega
                have w2 : IntKind.i64.wrap (0 - ((partF A ws i : Nat) : Int)) = -((partF A ws i : Nat) : Int) := by rw [IntKind.wrap_i64]; omega
                have c1 : (i + 1) * 8 ≤ 68719476736 := by omega
                have c2 : i + 1 ≤ 4294967296 := by omega
                by_cases hneg : a < 0
                · have t5 := decide_eq_true hneg
                  simp +contextual only [go_sem, ↓reduceIte, Nat.reduceEqDiff, Nat.reduceAdd, Nat.reduceLeDiff, Nat.reduceLT, reduceCtorEq, k19, d3, hli, Int.natCast_nonneg, Int.toNat_natCast, Nat.zero_add, f2, w1, w2, t5, c1, c2, okE_i, List.length_map, List.length_range, List.drop_zero]
                  have e3 : (List.range i).map (fun j => V.sc (.int .i64 (sgnP a (partF A ws j)))) ++ [V.sc (.int .i64 (-((partF A ws i : Nat) : Int)))] = (List.range (i + 1)).map (fun j => V.sc (.int .i64 (sgnP a (partF A ws j)))) := by
                    have := rng_app (fun j => V.sc (.int .i64 (sgnP a (partF A ws j)))) i
                    rw [← this, sgnP, if_pos hneg]
                  refine ⟨i + 1, by dsimp only; omega, by omega, .ren [some 0, some 3] rfl rfl 1 ?_⟩
                  simp +contextual only [go_sem, ↓reduceIte, Nat.reduceEqDiff, Nat.reduceAdd, Nat.reduceLeDiff, Nat.reduceLT, reduceCtorEq, hw, e3]
                  exact ⟨map_low _ _ _ fun _ => rfl, map_low _ _ _ fun _ => rfl⟩
                · have t5 := decide_eq_false hneg
                  simp +contextual only [go_sem, ↓reduceIte, Nat.reduceEqDiff, Nat.reduceAdd, Nat.reduceLeDiff, Nat.reduceLT, reduceCtorEq, k19, d3, hli, Int.natCast_nonneg, Int.toNat_natCast, Nat.zero_add, f2, w1, w2, t5, c1, c2, okE_i, List.length_map, List.length_range, List.drop_zero]
                  have e3 : (List.range i).map (fun j => V.sc (.int .i64 (sgnP a (partF A ws j)))) ++ [V.sc (.int .i64 ((partF A ws i : Nat) : Int))] = (List.range (i + 1)).map (fun j => V.sc (.int .i64 (sgnP a (partF A ws j)))) := by
                    have := rng_app (fun j => V.sc (.int .i64 (sgnP a (partF A ws j)))) i
                    rw [← this, sgnP, if_neg hneg]
                  refine ⟨i + 1, by dsimp only; omega, by omega, .ren [some 0, some 3] rfl rfl 1 ?_⟩
                  simp +contextual only [go_sem, ↓reduceIte, Nat.reduceEqDiff, Nat.reduceAdd, Nat.reduceLeDiff, Nat.reduceLT, reduceCtorEq, hw, e3]
                  exact ⟨map_low _ _ _ fun _ => rfl, map_low _ _ _ fun _ => rfl⟩
              · have e : i = n := by omega
                subst e
                have d3 : decide ((i : Int) < (i : Int)) = false := by simp
                have fin : (List.range i).map (fun j => V.sc (.int .i64 (sgnP a (partF A ws j)))) = (partsS a l).map Cod.enc := by
                  rw [partsS, List.map_map, ← hA, ← hws, ← hnl]; rfl
                have gl : ((partsS a l).map Cod.enc).length = i := by rw [List.length_map, partsS, List.length_map, List.length_range, hnl]
                have gF : ((partsS a l).map Cod.enc).all V.isF = true := List.all_eq_true.2 fun x hx => by
                  obtain ⟨j, _, rfl⟩ := List.mem_map.1 hx
                  rfl
                have gt : ((partsS a l).map Cod.enc).take i = (partsS a l).map Cod.enc := List.take_of_length_le (by omega)
                simp +contextual only [go_sem, ↓reduceIte, Nat.reduceEqDiff, Nat.reduceAdd, Nat.reduceLeDiff, Nat.reduceLT, reduceCtorEq, k19, d3, fin, gl, gF, gt, Nat.zero_add, Nat.le_refl, and_self]
                try rfl
      · intro i _ x xs hd hlt hx _
        obtain ⟨g1, g2, g3, g4⟩ := nats_get ha hx
        rw [← hws] at g1
        rw [← hnl] at hlt
        have hw := wrap_nat hlt (by omega)
        obtain ⟨X, hX⟩ : ∃ X, X = x.toNat := ⟨_, rfl⟩
        rw [← hX] at g1 g4
        have hXb : X ≤ 1099511627776 := by omega
        have hXu : inU ⟨X⟩ := by show X < 18446744073709551616; omega
        have wx : IntKind.u64.wrap x = ((X : Nat) : Int) := by rw [IntKind.wrap_u64]; omega
        have hXS : X ≤ S := by
          rw [hS, ← g1]
          exact le_sum (i := i) (by simp [List.getD, hwl, hlt])
        have hhi := hi_lt (A := A) (by omega) hXS hS0
        have hhu : inU ⟨A * X / 18446744073709551616⟩ := Nat.lt_trans hhi hSu
        have hlu : inU ⟨A * X % 18446744073709551616⟩ := Nat.mod_lt _ (by decide)
        have hdm : A * X / 18446744073709551616 * 18446744073709551616 + A * X % 18446744073709551616 = A * X := by omega
        have eq : A * X / S = quoF A ws i := by rw [quoF, g1, hS]
        have er : A * X % S = restF A ws i := by rw [restF, g1, hS]
        obtain ⟨ls1, ls2⟩ := left_step A hSp (i := i) (by omega)
        have hq := quo_le (A := A) hSp (i := i) (by omega)
        have hlb : leftI A ws i ≤ A := Nat.sub_le _ _
        have eqm : quoF A ws i % 18446744073709551616 = quoF A ws i := by omega
        have hS1 : 1 ≤ S := hS0
        have wl : IntKind.u64.wrap (((leftI A ws i : Nat) : Int) - ((quoF A ws i : Nat) : Int)) = ((leftI A ws (i + 1) : Nat) : Int) := by rw [IntKind.wrap_u64]; omega
        have f1 : List.range i ++ [i] = List.range (i + 1) := List.range_succ.symm
        have c1 : (i + 1) * 8 ≤ 68719476736 := by omega
        have c2 : i + 1 ≤ 4294967296 := by omega
        have hlt2 : decide ((i : Int) < (l.length : Int)) = true := by simp; omega
        simp +contextual only [go_sem, ↓reduceIte, Nat.reduceEqDiff, Nat.reduceAdd, Nat.reduceLeDiff, Nat.reduceLT, reduceCtorEq, k19, List.length_map, hlt2, hx, List.getElem?_map, Option.map_some, Int.natCast_nonneg, Int.toNat_natCast, Nat.zero_add, wx, h31, h30, h32, haI, ← hA, hAu, hXu, hhu, hlu, hSi, hS1, and_self, hdm, eq, er, eqm, wl, f1, okE_u, c1, c2, List.length_range, List.drop_zero]
        refine ⟨(by first | rfl | (simp [apartI, apartAll, clash, List.range, List.range.loop] <;> decide)), (), trivial, .ren [some 16, some 18] rfl rfl 0 ?_⟩
        have e1 : (List.range i).map (fun j => V.sc (.int .u64 ((quoF A ws j : Nat) : Int))) ++ [V.sc (.int .u64 ((quoF A ws i : Nat) : Int))] = (List.range (i + 1)).map (fun j => V.sc (.int .u64 ((quoF A ws j : Nat) : Int))) := rng_app _ i
        have e2 : (List.range i).map (fun j => V.sc (.int .u64 ((restF A ws j : Nat) : Int))) ++ [V.sc (.int .u64 ((restF A ws i : Nat) : Int))] = (List.range (i + 1)).map (fun j => V.sc (.int .u64 ((restF A ws j : Nat) : Int))) := rng_app _ i
        simp +contextual only [go_sem, ↓reduceIte, Nat.reduceEqDiff, Nat.reduceAdd, Nat.reduceLeDiff, Nat.reduceLT, reduceCtorEq, hw, e1, e2]
        exact ⟨map_low _ _ _ fun _ => rfl, map_low _ _ _ fun _ => rfl⟩
  · rintro i s x xs hd hlt hx ⟨ha, hs, hs0, hs1⟩
    have hw := wrap_nat hlt (by omega)
    have hxl : xs.length + 1 + i = l.length := by
      have := congrArg List.length hd
      simp at this; omega
    rw [List.sum_cons] at hs
    rw [List.length_cons] at hs1
    by_cases hxk : okW x = true
    · obtain ⟨x0, x1⟩ := okW_iff.1 hxk
      have d1 : decide (x < 0) = false := by simp; omega
      have d2 : decide (x > 1099511627776) = false := by simp; omega
      have w0 : IntKind.u64.wrap x = x := by rw [IntKind.wrap_u64]; omega
      have w1 : IntKind.u64.wrap (s + x) = s + x := by rw [IntKind.wrap_u64]; omega
      simp +contextual only [go_sem, ↓reduceIte, Nat.reduceEqDiff, Nat.reduceAdd, Nat.reduceLeDiff, Nat.reduceLT, reduceCtorEq, k19, List.length_map, lt_dec hlt, hx, List.getElem?_map, Option.map_some, Int.natCast_nonneg, Int.toNat_natCast, d1, d2, w0, w1]
      refine ⟨s + x, ⟨by rw [ha, List.all_cons, hxk]; rfl, by omega, by omega, by omega⟩, .back rfl ?_⟩
      simp +contextual only [go_sem, ↓reduceIte, Nat.reduceEqDiff, Nat.reduceAdd, Nat.reduceLeDiff, Nat.reduceLT, reduceCtorEq, hw]
    · have hxf : okW x = false := by simpa using hxk
      rw [List.all_cons, hxf, Bool.false_and] at ha
      rw [if_pos ha]
      by_cases hx0 : x < 0
      · have d1 := decide_eq_true hx0
        simp +contextual only [go_sem, ↓reduceIte, Nat.reduceEqDiff, Nat.reduceAdd, Nat.reduceLeDiff, Nat.reduceLT, reduceCtorEq, k19, List.length_map, lt_dec hlt, hx, List.getElem?_map, Option.map_some, Int.natCast_nonneg, Int.toNat_natCast, d1]
        try rfl
      · have d1 := decide_eq_false hx0
        have d2 : decide (x > 1099511627776) = true := by
          rw [okW] at hxf
          simp at hxf ⊢
          exact hxf (by omega)
        simp +contextual only [go_sem, ↓reduceIte, Nat.reduceEqDiff, Nat.reduceAdd, Nat.reduceLeDiff, Nat.reduceLT, reduceCtorEq, k19, List.length_map, lt_dec hlt, hx, List.getElem?_map, Option.map_some, Int.natCast_nonneg, Int.toNat_natCast, d1, d2]
        try rfl
end Go.Proofs.YtfmeplnoikfndaaDoor
