/- A stable sort in place: ranges swapped, blocks turned. -/
import Derived.Test.YtfmeplnoikfndaaDoorStabA
namespace Go.Proofs.YtfmeplnoikfndaaDoor
set_option linter.all false
open Go.Idl Go.Idl.Stab
set_option maxHeartbeats 8000000
set_option maxRecDepth 100000
theorem wrapA {i j : Nat} (h : i + j < 9223372036854775808) : IntKind.i64.wrap ((i : Int) + (j : Int)) = ((i + j : Nat) : Int) := by rw [IntKind.wrap_i64]; omega
theorem wrapS {i j : Nat} (h : j ≤ i) (hi : i < 9223372036854775808) : IntKind.i64.wrap ((i : Int) - (j : Int)) = ((i - j : Nat) : Int) := by rw [IntKind.wrap_i64]; omega
theorem ctSwR {Φ : Specs} (hg : Idl.Good Tryd.prog Φ) {g : FuncId} {h : Nat → List V} (e : Els 2 h)
    {C : Ctx} {τ : Nat → V} {H : Heap} {n id N a b m : Nat} {P X M Y R : List Nat} (hP : P.length = a) (hX : X.length = m) (hM : a + m + M.length = b) (hY : Y.length = m) (hN : b + m + R.length = N) (hbig : N < 4611686018427387904)
    (hH : H id = .live 2 (row h (P ++ X ++ M ++ Y ++ R)) true) {Q : V → SF → Prop} (hk : Q (.tup []) ⟨τ, updH H id (.live 2 (row h (P ++ Y ++ M ++ X ++ R)) true), n⟩) :
    CallT Tryd.prog C 71 [.own id 0 N, .sc (.int .i64 (a : Nat)), .sc (.int .i64 (b : Nat)), .sc (.int .i64 (m : Nat)), .sc (.func (.func g) #[] #[])] ⟨τ, H, n⟩ Q := by
  refine CallT.heap hk ?_
  refine CallT.of_walk hg k71 ic71 (by simp) fun C1 hlow1 => ?_
  simp +contextual only [go_sem, ↓reduceIte, Nat.reduceEqDiff, Nat.reduceAdd, Nat.reduceLeDiff, Nat.reduceLT, reduceCtorEq, c71, k71]
  refine TriI.loopA hg k71 (fun i : Nat => ⟨slotsL [(0, .own id 0 N), (1, .sc (.int .i64 (a : Nat))), (2, .sc (.int .i64 (b : Nat))), (3, .sc (.int .i64 (m : Nat))), (10, .sc (.int .i64 (i : Nat)))],
      updH H id (.live 2 (row h (swR P X M Y R i)) true), n⟩)
    (fun i => i ≤ m) (fun i => m - i) 0 (.slotsH ?_ ?_) (Nat.zero_le _) ?_
  · rw [swR_zero]
    exact (set_same H id _ hH).symm
  · simp +contextual only [go_sem, ↓reduceIte, Nat.reduceEqDiff, Nat.reduceAdd, Nat.reduceLeDiff, Nat.reduceLT, reduceCtorEq]
    rfl
  · intro i hi
    rcases Nat.lt_or_ge i m with hlt | hge
    · have hd : decide (((i : Nat) : Int) < ((m : Nat) : Int)) = true := by simp; omega
      obtain ⟨x, hx⟩ : ∃ x, X[i]? = some x := ⟨X[i]'(by omega), by simp⟩
      obtain ⟨y, hy⟩ : ∃ y, Y[i]? = some y := ⟨Y[i]'(by omega), by simp⟩
      obtain ⟨f1, f2⟩ := swR_form (P := P) (M := M) (R := R) (n := m) hx hy
      rw [f1]
      have w1 := wrapA (i := a) (j := i) (by omega)
      have w2 := wrapA (i := b) (j := i) (by omega)
      have w3 := wrapP (i := i) (by omega)
      have b1 : ((a + i : Nat) : Int) < ((N : Nat) : Int) := by omega
      have b2 : ((b + i : Nat) : Int) < ((N : Nat) : Int) := by omega
      have hPl : (P ++ Y.take i).length = a + i := by simp; omega
      have hMl : a + i + 1 + (X.drop (i + 1) ++ M ++ X.take i).length = b + i := by simp; omega
      have gx : (row h ((P ++ Y.take i) ++ x :: ((X.drop (i + 1) ++ M ++ X.take i) ++ y :: (Y.drop (i + 1) ++ R))))[a + i]? = some (.agg (h x)) := row_get (get_mid' hPl x _)
      have gy : (row h ((P ++ Y.take i) ++ x :: ((X.drop (i + 1) ++ M ++ X.take i) ++ y :: (Y.drop (i + 1) ++ R))))[b + i]? = some (.agg (h y)) := row_get (get_snd x y hPl hMl)
      have gy' : ((row h ((P ++ Y.take i) ++ x :: ((X.drop (i + 1) ++ M ++ X.take i) ++ y :: (Y.drop (i + 1) ++ R)))).set (a + i) (.agg (h y)))[b + i]? = some (.agg (h y)) := by
        rw [List.getElem?_set_ne (by omega)]; exact gy
      have hsw : ((row h ((P ++ Y.take i) ++ x :: ((X.drop (i + 1) ++ M ++ X.take i) ++ y :: (Y.drop (i + 1) ++ R)))).set (a + i) (.agg (h y))).set (b + i) (.agg (h x)) = row h (swR P X M Y R (i + 1)) := by
        rw [row_set, row_set, f2]
        exact congrArg (row h) (swap_two x y hPl hMl)
      simp +contextual only [go_sem, ↓reduceIte, Nat.reduceEqDiff, Nat.reduceAdd, Nat.reduceLeDiff, Nat.reduceLT, reduceCtorEq, k71, hd, w1, w2, w3, b1, b2, Nat.zero_add, gx, gy, gy', hsw, updH_over, e.len, e.take, e.wr, e.ok, e.solid, List.drop_zero, Nat.le_refl, Int.natCast_nonneg, Int.toNat_natCast]
      refine ⟨(by simp [apartI, apartAll, clash, List.range, List.range.loop] <;> decide), i + 1, by dsimp only; omega, by omega, .slotsH rfl ?_⟩
      simp +contextual only [go_sem, ↓reduceIte, Nat.reduceEqDiff, Nat.reduceAdd, Nat.reduceLeDiff, Nat.reduceLT, reduceCtorEq]
    · have hie : i = m := by omega
      subst hie
      have hd : decide (((i : Nat) : Int) < ((i : Nat) : Int)) = false := by simp
      simp +contextual only [go_sem, ↓reduceIte, Nat.reduceEqDiff, Nat.reduceAdd, Nat.reduceLeDiff, Nat.reduceLT, reduceCtorEq, k71, hd]
      rw [swR_end hX hY]
theorem ctRot {Φ : Specs} (hg : Idl.Good Tryd.prog Φ) (hsw : Φ 71 = none) {g : FuncId} {h : Nat → List V} (e : Els 2 h)
    {C : Ctx} {τ : Nat → V} {H : Heap} {n id N a m b : Nat} {P U V' R : List Nat} (hP : P.length = a) (hU : a + U.length = m) (hV : m + V'.length = b) (hN : b + R.length = N) (hbig : N < 4611686018427387904) (hU0 : 0 < U.length) (hV0 : 0 < V'.length)
    (hH : H id = .live 2 (row h (P ++ U ++ V' ++ R)) true) {Q : V → SF → Prop} (hk : Q (.tup []) ⟨τ, updH H id (.live 2 (row h (P ++ V' ++ U ++ R)) true), n⟩) :
    CallT Tryd.prog C 61 [.own id 0 N, .sc (.int .i64 (a : Nat)), .sc (.int .i64 (m : Nat)), .sc (.int .i64 (b : Nat)), .sc (.func (.func g) #[] #[])] ⟨τ, H, n⟩ Q := by
  refine CallT.heap hk ?_
  refine CallT.of_walk hg k61 ic61 (by simp) fun C1 hlow1 => ?_
  have w1 : IntKind.i64.wrap (((m : Nat) : Int) - ((a : Nat) : Int)) = ((U.length : Nat) : Int) := by rw [IntKind.wrap_i64]; omega
  have w2 : IntKind.i64.wrap (((b : Nat) : Int) - ((m : Nat) : Int)) = ((V'.length : Nat) : Int) := by rw [IntKind.wrap_i64]; omega
  simp +contextual only [go_sem, ↓reduceIte, Nat.reduceEqDiff, Nat.reduceAdd, Nat.reduceLeDiff, Nat.reduceLT, reduceCtorEq, c61, k61, w1, w2]
  refine TriI.loopA hg k61 (fun q : List Nat × List Nat × List Nat × List Nat => ⟨slotsL [(0, .own id 0 N), (2, .sc (.int .i64 (m : Nat))), (4, .sc (.func (.func g) #[] #[])), (10, .sc (.int .i64 (q.2.1.length : Nat))), (11, .sc (.int .i64 (q.2.2.1.length : Nat)))],
      updH H id (.live 2 (row h (q.1 ++ q.2.1 ++ q.2.2.1 ++ q.2.2.2)) true), n⟩)
    (fun q => q.1 ++ q.2.2.1 ++ q.2.1 ++ q.2.2.2 = P ++ V' ++ U ++ R ∧ q.1.length + q.2.1.length = m ∧ m + q.2.2.1.length + q.2.2.2.length = N ∧ 0 < q.2.1.length ∧ 0 < q.2.2.1.length) (fun q => q.2.1.length + q.2.2.1.length) (P, U, V', R) (.slotsH ?_ ?_) ⟨rfl, by dsimp only; omega, by dsimp only; omega, hU0, hV0⟩ ?_
  · exact (set_same H id _ hH).symm
  · simp +contextual only [go_sem, ↓reduceIte, Nat.reduceEqDiff, Nat.reduceAdd, Nat.reduceLeDiff, Nat.reduceLT, reduceCtorEq]
  · rintro ⟨P', X, Y, R'⟩ ⟨h1, h2, h3, h4, h5⟩
    dsimp only at h1 h2 h3 h4 h5 ⊢
    have wmi := wrapS (i := m) (j := X.length) (by omega) (by omega)
    rcases Nat.lt_trichotomy X.length Y.length with hlt | heq | hgt
    · have hd : (((X.length : Nat) : Int) != ((Y.length : Nat) : Int)) = true := by simp; omega
      have hd2 : decide (((X.length : Nat) : Int) > ((Y.length : Nat) : Int)) = false := by simp; omega
      have wmj := wrapA (i := m) (j := Y.length) (by omega)
      have wmj2 := wrapS (i := m + Y.length) (j := X.length) (by omega) (by omega)
      have wji := wrapS (i := Y.length) (j := X.length) (by omega) (by omega)
      simp +contextual only [go_sem, ↓reduceIte, Nat.reduceEqDiff, Nat.reduceAdd, Nat.reduceLeDiff, Nat.reduceLT, reduceCtorEq, k61, hd, hd2, wmi, wmj, wmj2, hsw]
      refine ctSwR hg e (P := P') (X := X) (M := Y.take (Y.length - X.length)) (Y := Y.drop (Y.length - X.length)) (R := R') (by omega) rfl (by simp; omega) (by simp; omega) (by omega) hbig ?_ ?_
      · rw [← List.take_append_drop (Y.length - X.length) Y]
        simp [updH]
      · have hl1 : (Y.take (Y.length - X.length)).length = Y.length - X.length := by simp
        have hl2 : (Y.drop (Y.length - X.length)).length = X.length := by simp; omega
        refine ⟨(P', Y.drop (Y.length - X.length), Y.take (Y.length - X.length), X ++ R'), by dsimp only; omega, ⟨?_, by dsimp only; omega, by dsimp only; simp; omega, by dsimp only; omega, by dsimp only; omega⟩, .slotsH ?_ ?_⟩
        · dsimp only
          rw [← h1, ← List.take_append_drop (Y.length - X.length) Y]
          simp
        · dsimp only
          rw [updH_over]
          simp
        · simp +contextual only [go_sem, ↓reduceIte, Nat.reduceEqDiff, Nat.reduceAdd, Nat.reduceLeDiff, Nat.reduceLT, reduceCtorEq, wji, hl1, hl2]
    · have hd : (((X.length : Nat) : Int) != ((Y.length : Nat) : Int)) = false := by simp; omega
      simp +contextual only [go_sem, ↓reduceIte, Nat.reduceEqDiff, Nat.reduceAdd, Nat.reduceLeDiff, Nat.reduceLT, reduceCtorEq, k61, hd, wmi, hsw]
      refine ctSwR hg e (P := P') (X := X) (M := []) (Y := Y) (R := R') (by omega) rfl (by simp; omega) heq.symm (by omega) hbig ?_ ?_
      · simp [updH]
      · dsimp only
        rw [updH_over, ← h1]
        simp
    · have hd : (((X.length : Nat) : Int) != ((Y.length : Nat) : Int)) = true := by simp; omega
      have hd2 : decide (((X.length : Nat) : Int) > ((Y.length : Nat) : Int)) = true := by simp; omega
      have wij := wrapS (i := X.length) (j := Y.length) (by omega) (by omega)
      simp +contextual only [go_sem, ↓reduceIte, Nat.reduceEqDiff, Nat.reduceAdd, Nat.reduceLeDiff, Nat.reduceLT, reduceCtorEq, k61, hd, hd2, wmi, hsw]
      refine ctSwR hg e (P := P') (X := X.take Y.length) (M := X.drop Y.length) (Y := Y) (R := R') (by omega) (by simp; omega) (by simp; omega) rfl (by omega) hbig ?_ ?_
      · rw [List.append_assoc P' (X.take Y.length), List.take_append_drop]
        simp [updH]
      · have hl1 : (X.take Y.length).length = Y.length := by simp; omega
        have hl2 : (X.drop Y.length).length = X.length - Y.length := by simp
        refine ⟨(P' ++ Y, X.drop Y.length, X.take Y.length, R'), by dsimp only; omega, ⟨?_, by dsimp only; simp; omega, by dsimp only; omega, by dsimp only; omega, by dsimp only; omega⟩, .slotsH ?_ ?_⟩
        · dsimp only
          rw [← h1, List.append_assoc (P' ++ Y), List.take_append_drop]
        · dsimp only
          rw [updH_over]
        · simp +contextual only [go_sem, ↓reduceIte, Nat.reduceEqDiff, Nat.reduceAdd, Nat.reduceLeDiff, Nat.reduceLT, reduceCtorEq, wij, hl1, hl2]
end Go.Proofs.YtfmeplnoikfndaaDoor
