/- A stable sort in place: two runs are merged. -/
import Derived.Test.YtfmeplnoikfndaaDoorStabB
namespace Go.Proofs.YtfmeplnoikfndaaDoor
set_option linter.all false
open Go.Idl Go.Idl.Stab
set_option maxHeartbeats 8000000
set_option maxRecDepth 100000
attribute [local go_sem] Tryd.underlying3 Tryd.underlying74 Tryd.underlying4
theorem halfV {i : Nat} (h : i < 9223372036854775808) : IntKind.i64.wrap ((IntKind.u64.wrap ((i : Nat) : Int)).fdiv (2 ^ (min (Int.toNat 1) 64))) = ((i / 2 : Nat) : Int) := by
  have h1 : IntKind.u64.wrap ((i : Nat) : Int) = ((i : Nat) : Int) := by simp [IntKind.wrap, IntKind.bits, IntKind.signed]; omega
  have h2 : (2 : Int) ^ (min (Int.toNat 1) 64) = 2 := by decide
  rw [h1, h2, IntKind.wrap_i64, Int.fdiv_eq_ediv_of_nonneg _ (by decide)]
  omega
theorem half {i j : Nat} (h : i < j) (hj : j < 4611686018427387904) : ∃ p, i ≤ p ∧ p < j ∧ IntKind.i64.wrap ((IntKind.u64.wrap ((i + j : Nat) : Int)).fdiv (2 ^ (min (Int.toNat 1) 64))) = ((p : Nat) : Int) := ⟨(i + j) / 2, by omega, by omega, halfV (by omega)⟩
theorem one_pos : ¬ (1 : Int) < 0 := by decide
theorem CallT.heapE {P : Program} {C : Ctx} {f : FuncId} {vs : List V} {s : SF} {K : V → SF → Prop} {α : Type} {p : α → Prop} {G : α → Heap} (hk : ∀ T, p T → K (.tup []) ⟨s.τ, G T, s.n⟩) (h : CallT P C f vs s fun v s' => v = .tup [] ∧ ∃ T, p T ∧ s'.H = G T) : CallT P C f vs s K := by
  refine ⟨h.1, fun tm w γ I args h1 h2 h3 => (h.2 tm w γ I args h1 h2 h3).mono ?_⟩
  rintro e w' ⟨u, v, s', e1, ⟨rfl, T, hT, hG⟩, γ', I', hS, hr⟩
  refine ⟨u, .tup [], ⟨s.τ, s'.H, s.n⟩, e1, ?_, γ', I', hS, hr⟩
  rw [hG]
  exact hk T hT
theorem ctSym {Φ : Specs} (hg : Idl.Good Tryd.prog Φ) (hsw : Φ 71 = none) (hro : Φ 61 = none) (hsy : Φ 51 = none) {g : FuncId} {h : Nat → List V} {c : Nat → Nat → Int} (e : Els 2 h) (hc : CmpT Tryd.prog g h c) {L : Nat → Nat → Prop} (o : Ord L) (hL : ∀ x y, y < x → (c x y < 0 ↔ L x y)) {id N : Nat} (hbig : N < 4611686018427387904) :
    ∀ (k : Nat) {C : Ctx} {τ : Nat → V} {H : Heap} {n a m b : Nat} {P A B R : List Nat} {Q : V → SF → Prop}, b - a ≤ k → P.length = a → a + A.length = m → m + B.length = b → b + R.length = N → 0 < A.length → 0 < B.length → Srt L A → Srt L B → (∀ x, x ∈ A → ∀ y, y ∈ B → x < y) →
    H id = .live 2 (row h (P ++ A ++ B ++ R)) true → (∀ T, T.Perm (A ++ B) ∧ Srt L T → Q (.tup []) ⟨τ, updH H id (.live 2 (row h (P ++ T ++ R)) true), n⟩) →
    CallT Tryd.prog C 51 [.own id 0 N, .sc (.int .i64 (a : Nat)), .sc (.int .i64 (m : Nat)), .sc (.int .i64 (b : Nat)), .sc (.func (.func g) #[] #[])] ⟨τ, H, n⟩ Q := by
  intro k
  induction k with
  | zero => intro C τ H n a m b P A B R Q hk hP hA hB hN hA0 hB0; omega
  | succ k ih =>
  intro C τ H n a m b P A B R Q hk hP hA hB hN hA0 hB0 sA sB hAB hH hQ
  refine CallT.heapE hQ ?_
  suffices key : ∀ H, CallT Tryd.prog C 51 [.own id 0 N, .sc (.int .i64 (a : Nat)), .sc (.int .i64 (m : Nat)), .sc (.int .i64 (b : Nat)), .sc (.func (.func g) #[] #[])] ⟨τ, updH H id (.live 2 (row h (P ++ A ++ B ++ R)) true), n⟩
      fun v s' => v = .tup [] ∧ ∃ T, (T.Perm (A ++ B) ∧ Srt L T) ∧ s'.H = updH H id (.live 2 (row h (P ++ T ++ R)) true) by
    have := key H
    rw [set_same H id _ hH] at this
    exact this
  clear hQ hH
  intro H
  refine CallT.of_walk hg k51 ic51 (by simp) fun C1 hlow1 => ?_
  by_cases hA1 : A.length = 1
  · obtain ⟨x, rfl⟩ := List.length_eq_one_iff.1 hA1
    have w1 : IntKind.i64.wrap (((m : Nat) : Int) - ((a : Nat) : Int)) = 1 := by rw [IntKind.wrap_i64]; omega
    have hd1 : ((1 : Int) == 1) = true := rfl
    have haN : ((a : Nat) : Int) < ((N : Nat) : Int) := by omega
    have gx : (row h (P ++ [x] ++ B ++ R))[a]? = some (.agg (h x)) := row_get (by rw [List.append_assoc, List.append_assoc]; exact get_mid' hP x _)
    simp +contextual only [go_sem, ↓reduceIte, Nat.reduceEqDiff, Nat.reduceAdd, Nat.reduceLeDiff, Nat.reduceLT, reduceCtorEq, c51, k51, w1, hd1]
    refine TriI.loopA hg k51 (fun q : Nat × Nat => ⟨slotsL [(0, .own id 0 N), (1, .sc (.int .i64 (a : Nat))), (2, .sc (.int .i64 (m : Nat))), (3, .sc (.int .i64 (b : Nat))), (4, .sc (.func (.func g) #[] #[])), (10, .sc (.int .i64 (q.1 : Nat))), (11, .sc (.int .i64 (q.2 : Nat)))], updH H id (.live 2 (row h (P ++ [x] ++ B ++ R)) true), n⟩)
      (fun q => m ≤ q.1 ∧ q.1 ≤ q.2 ∧ q.2 ≤ b ∧ Cut (fun y => L y x) B (q.1 - m) (q.2 - m)) (fun q => q.2 - q.1) (m, b) (.slotsH rfl ?_) ?_ ?_
    · simp +contextual only [go_sem, ↓reduceIte, Nat.reduceEqDiff, Nat.reduceAdd, Nat.reduceLeDiff, Nat.reduceLT, reduceCtorEq]
    · refine ⟨Nat.le_refl _, by dsimp only; omega, Nat.le_refl _, ?_⟩
      have := Cut.init (fun y => L y x) B
      dsimp only
      rw [Nat.sub_self, show b - m = B.length by omega]
      exact this
    · rintro ⟨i, j⟩ ⟨h1, h2, h3, hcut⟩
      dsimp only at h1 h2 h3 hcut ⊢
      rcases Nat.lt_or_ge i j with hij | hij
      · have hd2 : decide (((i : Nat) : Int) < ((j : Nat) : Int)) = true := by simp; omega
        have wij := wrapA (i := i) (j := j) (by omega)
        obtain ⟨p, hp1, hp2, hpp⟩ := half hij (by omega)
        have hhN : ((p : Nat) : Int) < ((N : Nat) : Int) := by omega
        obtain ⟨y, hy⟩ : ∃ y, B[p - m]? = some y := ⟨B[p - m]'(by omega), by simp⟩
        have hyx := hAB x (by simp) y (List.mem_of_getElem? hy)
        have gy : (row h (P ++ [x] ++ B ++ R))[p]? = some (.agg (h y)) := row_get (by
          rw [List.getElem?_append_left (by simp; omega), List.getElem?_append_right (by simp; omega)]
          rw [← hy]; congr 1; simp; omega)
        simp +contextual only [go_sem, ↓reduceIte, Nat.reduceEqDiff, Nat.reduceAdd, Nat.reduceLeDiff, Nat.reduceLT, reduceCtorEq, k51, hd2, hpp, wij, one_pos, not_false_eq_true, hhN, haN, gy, gx, Nat.zero_add, e.len, e.take, List.drop_zero, Nat.le_refl, Int.natCast_nonneg, Int.toNat_natCast]
        refine ⟨rfl, (by simp [apartI, apartAll, clash, List.range, List.range.loop] <;> decide), hc y x _ _ _ ?_⟩
        by_cases hlt : c y x < 0
        · have hd : decide (c y x < (0 : Int)) = true := decide_eq_true hlt
          have wp := wrapP (i := p) (by omega)
          have hyL := (hL y x hyx).1 hlt
          simp +contextual only [go_sem, ↓reduceIte, Nat.reduceEqDiff, Nat.reduceAdd, Nat.reduceLeDiff, Nat.reduceLT, reduceCtorEq, k51, hd, wp]
          refine ⟨(p + 1, j), by dsimp only; omega, ⟨by dsimp only; omega, by dsimp only; omega, h3, ?_⟩, .slotsH rfl ?_⟩
          · dsimp only
            rw [show p + 1 - m = p - m + 1 by omega]
            exact hcut.up hy hyL fun k' z hz hk' => o.trans (sB.get hz hy hk') hyL
          · simp +contextual only [go_sem, ↓reduceIte, Nat.reduceEqDiff, Nat.reduceAdd, Nat.reduceLeDiff, Nat.reduceLT, reduceCtorEq]
        · have hd : decide (c y x < (0 : Int)) = false := decide_eq_false hlt
          have hyL : ¬ L y x := fun g => hlt ((hL y x hyx).2 g)
          simp +contextual only [go_sem, ↓reduceIte, Nat.reduceEqDiff, Nat.reduceAdd, Nat.reduceLeDiff, Nat.reduceLT, reduceCtorEq, k51, hd]
          refine ⟨(i, p), by dsimp only; omega, ⟨h1, by dsimp only; omega, by dsimp only; omega, ?_⟩, .slotsH rfl ?_⟩
          · exact hcut.down hy hyL fun k' z hz hk' g => hyL (o.trans (sB.get hy hz hk') g)
          · simp +contextual only [go_sem, ↓reduceIte, Nat.reduceEqDiff, Nat.reduceAdd, Nat.reduceLeDiff, Nat.reduceLT, reduceCtorEq]
      · have hij' : j = i := by omega
        subst hij'
        have hd2 : decide (((j : Nat) : Int) < ((j : Nat) : Int)) = false := by simp
        simp +contextual only [go_sem, ↓reduceIte, Nat.reduceEqDiff, Nat.reduceAdd, Nat.reduceLeDiff, Nat.reduceLT, reduceCtorEq, k51, hd2]
        refine TriI.loopA hg k51 (fun t : Nat => ⟨slotsL [(0, .own id 0 N), (1, .sc (.int .i64 (a : Nat))), (2, .sc (.int .i64 (m : Nat))), (3, .sc (.int .i64 (b : Nat))), (4, .sc (.func (.func g) #[] #[])), (10, .sc (.int .i64 (j : Nat))), (13, .sc (.int .i64 (a + t : Nat)))], updH H id (.live 2 (row h ((P ++ B.take t) ++ x :: (B.drop t ++ R))) true), n⟩)
          (fun t => t ≤ j - m) (fun t => j - m - t) 0 (.slotsH ?_ ?_) (Nat.zero_le _) ?_
        · simp
        · simp +contextual only [go_sem, ↓reduceIte, Nat.reduceEqDiff, Nat.reduceAdd, Nat.reduceLeDiff, Nat.reduceLT, reduceCtorEq, Nat.add_zero]
        · intro t ht
          have wi : IntKind.i64.wrap (((j : Nat) : Int) - 1) = ((j - 1 : Nat) : Int) := by rw [IntKind.wrap_i64]; omega
          rcases Nat.lt_or_ge t (j - m) with htl | htl
          · have hd3 : decide (((a + t : Nat) : Int) < ((j - 1 : Nat) : Int)) = true := by simp; omega
            obtain ⟨y, hy⟩ : ∃ y, B[t]? = some y := ⟨B[t]'(by omega), by simp⟩
            obtain ⟨hy1, hy2⟩ := List.getElem?_eq_some_iff.1 hy
            have ed : B.drop t = y :: B.drop (t + 1) := by rw [List.drop_eq_getElem_cons hy1, hy2]
            have et : B.take (t + 1) = B.take t ++ [y] := by rw [List.take_succ, hy]; rfl
            have wt := wrapP (i := a + t) (by omega)
            have b1 : ((a + t : Nat) : Int) < ((N : Nat) : Int) := by omega
            have b2 : ((a + t + 1 : Nat) : Int) < ((N : Nat) : Int) := by omega
            have hPl : (P ++ B.take t).length = a + t := by simp; omega
            rw [show (P ++ B.take t) ++ x :: (B.drop t ++ R) = (P ++ B.take t) ++ x :: y :: (B.drop (t + 1) ++ R) by rw [ed]; simp]
            have gx : (row h ((P ++ B.take t) ++ x :: y :: (B.drop (t + 1) ++ R)))[a + t]? = some (.agg (h x)) := row_get (get_mid' hPl x _)
            have gy : (row h ((P ++ B.take t) ++ x :: y :: (B.drop (t + 1) ++ R)))[a + t + 1]? = some (.agg (h y)) := row_get (get_snd (M := []) x y hPl (by simp))
            have gy' : ((row h ((P ++ B.take t) ++ x :: y :: (B.drop (t + 1) ++ R))).set (a + t) (.agg (h y)))[a + t + 1]? = some (.agg (h y)) := by
              rw [List.getElem?_set_ne (by omega)]; exact gy
            have hsw2 : ((row h ((P ++ B.take t) ++ x :: y :: (B.drop (t + 1) ++ R))).set (a + t) (.agg (h y))).set (a + t + 1) (.agg (h x)) = row h ((P ++ B.take (t + 1)) ++ x :: (B.drop (t + 1) ++ R)) := by
              rw [row_set, row_set, et]
              exact congrArg (row h) ((swap_two (M := []) x y hPl (by simp)).trans (by simp))
            simp +contextual only [go_sem, ↓reduceIte, Nat.reduceEqDiff, Nat.reduceAdd, Nat.reduceLeDiff, Nat.reduceLT, reduceCtorEq, k51, wi, hd3, wt, b1, b2, gx, gy, gy', hsw2, Nat.zero_add, e.len, e.take, List.drop_zero, Nat.le_refl, Int.natCast_nonneg, Int.toNat_natCast, updH_over, e.wr, e.ok, e.solid]
            refine ⟨(by simp [apartI, apartAll, clash, List.range, List.range.loop] <;> decide), t + 1, by dsimp only; omega, by omega, .slotsH rfl ?_⟩
            simp +contextual only [go_sem, ↓reduceIte, Nat.reduceEqDiff, Nat.reduceAdd, Nat.reduceLeDiff, Nat.reduceLT, reduceCtorEq, Nat.add_assoc]
          · have hte : t = j - m := by omega
            have hd3 : decide (((a + t : Nat) : Int) < ((j - 1 : Nat) : Int)) = false := by simp; omega
            simp +contextual only [go_sem, ↓reduceIte, Nat.reduceEqDiff, Nat.reduceAdd, Nat.reduceLeDiff, Nat.reduceLT, reduceCtorEq, k51, wi, hd3]
            subst hte
            refine ⟨B.take (j - m) ++ x :: B.drop (j - m), ⟨?_, merge_one_left o sB (fun y hy => by have := hAB x (by simp) y hy; omega) hcut⟩, by simp⟩
            refine List.perm_middle.trans ?_
            rw [List.take_append_drop]
  · by_cases hB1 : B.length = 1
    · obtain ⟨y, rfl⟩ := List.length_eq_one_iff.1 hB1
      have w1 : IntKind.i64.wrap (((m : Nat) : Int) - ((a : Nat) : Int)) = ((A.length : Nat) : Int) := by rw [IntKind.wrap_i64]; omega
      have w2 : IntKind.i64.wrap (((b : Nat) : Int) - ((m : Nat) : Int)) = 1 := by rw [IntKind.wrap_i64]; simp at hB; omega
      have hd0 : (((A.length : Nat) : Int) == 1) = false := by simp; omega
      have hd1 : ((1 : Int) == 1) = true := rfl
      have hmb : m + 1 = b := by simpa using hB
      have hmN : ((m : Nat) : Int) < ((N : Nat) : Int) := by omega
      have gy : (row h (P ++ A ++ [y] ++ R))[m]? = some (.agg (h y)) := row_get (by rw [List.append_assoc]; exact get_mid' (by simp; omega) y _)
      simp +contextual only [go_sem, ↓reduceIte, Nat.reduceEqDiff, Nat.reduceAdd, Nat.reduceLeDiff, Nat.reduceLT, reduceCtorEq, c51, k51, w1, w2, hd0, hd1]
      refine TriI.loopA hg k51 (fun q : Nat × Nat => ⟨slotsL [(0, .own id 0 N), (1, .sc (.int .i64 (a : Nat))), (2, .sc (.int .i64 (m : Nat))), (3, .sc (.int .i64 (b : Nat))), (4, .sc (.func (.func g) #[] #[])), (14, .sc (.int .i64 (q.1 : Nat))), (15, .sc (.int .i64 (q.2 : Nat)))], updH H id (.live 2 (row h (P ++ A ++ [y] ++ R)) true), n⟩)
        (fun q => a ≤ q.1 ∧ q.1 ≤ q.2 ∧ q.2 ≤ m ∧ Cut (fun x => ¬ L y x) A (q.1 - a) (q.2 - a)) (fun q => q.2 - q.1) (a, m) (.slotsH rfl ?_) ?_ ?_
      · simp +contextual only [go_sem, ↓reduceIte, Nat.reduceEqDiff, Nat.reduceAdd, Nat.reduceLeDiff, Nat.reduceLT, reduceCtorEq]
      · refine ⟨Nat.le_refl _, by dsimp only; omega, Nat.le_refl _, ?_⟩
        have := Cut.init (fun x => ¬ L y x) A
        dsimp only
        rw [Nat.sub_self, show m - a = A.length by omega]
        exact this
      · rintro ⟨i, j⟩ ⟨h1, h2, h3, hcut⟩
        dsimp only at h1 h2 h3 hcut ⊢
        rcases Nat.lt_or_ge i j with hij | hij
        · have hd2 : decide (((i : Nat) : Int) < ((j : Nat) : Int)) = true := by simp; omega
          have wij := wrapA (i := i) (j := j) (by omega)
          obtain ⟨p, hp1, hp2, hpp⟩ := half hij (by omega)
          have hhN : ((p : Nat) : Int) < ((N : Nat) : Int) := by omega
          obtain ⟨x, hx⟩ : ∃ x, A[p - a]? = some x := ⟨A[p - a]'(by omega), by simp⟩
          have hyx := hAB x (List.mem_of_getElem? hx) y (by simp)
          have gx : (row h (P ++ A ++ [y] ++ R))[p]? = some (.agg (h x)) := row_get (by
            rw [List.append_assoc, List.getElem?_append_left (by simp; omega), List.getElem?_append_right (by omega)]
            rw [← hx]; congr 1; omega)
          simp +contextual only [go_sem, ↓reduceIte, Nat.reduceEqDiff, Nat.reduceAdd, Nat.reduceLeDiff, Nat.reduceLT, reduceCtorEq, k51, hd2, hpp, wij, one_pos, not_false_eq_true, hhN, hmN, gy, gx, Nat.zero_add, e.len, e.take, List.drop_zero, Nat.le_refl, Int.natCast_nonneg, Int.toNat_natCast]
          refine ⟨rfl, (by simp [apartI, apartAll, clash, List.range, List.range.loop] <;> decide), hc y x _ _ _ ?_⟩
          by_cases hlt : c y x < 0
          · have hd : decide (c y x < (0 : Int)) = true := decide_eq_true hlt
            have hyL := (hL y x hyx).1 hlt
            simp +contextual only [go_sem, ↓reduceIte, Nat.reduceEqDiff, Nat.reduceAdd, Nat.reduceLeDiff, Nat.reduceLT, reduceCtorEq, k51, hd, Bool.not_true]
            refine ⟨(i, p), by dsimp only; omega, ⟨h1, by dsimp only; omega, by dsimp only; omega, ?_⟩, .slotsH rfl ?_⟩
            · exact hcut.down hx (fun g => g hyL) fun k' z hz hk' g => g (o.trans hyL (sA.get hx hz hk'))
            · simp +contextual only [go_sem, ↓reduceIte, Nat.reduceEqDiff, Nat.reduceAdd, Nat.reduceLeDiff, Nat.reduceLT, reduceCtorEq]
          · have hd : decide (c y x < (0 : Int)) = false := decide_eq_false hlt
            have wp := wrapP (i := p) (by omega)
            have hyL : ¬ L y x := fun g => hlt ((hL y x hyx).2 g)
            simp +contextual only [go_sem, ↓reduceIte, Nat.reduceEqDiff, Nat.reduceAdd, Nat.reduceLeDiff, Nat.reduceLT, reduceCtorEq, k51, hd, wp, Bool.not_false]
            refine ⟨(p + 1, j), by dsimp only; omega, ⟨by dsimp only; omega, by dsimp only; omega, h3, ?_⟩, .slotsH rfl ?_⟩
            · dsimp only
              rw [show p + 1 - a = p - a + 1 by omega]
              exact hcut.up hx hyL fun k' z hz hk' g => hyL (o.trans g (sA.get hz hx hk'))
            · simp +contextual only [go_sem, ↓reduceIte, Nat.reduceEqDiff, Nat.reduceAdd, Nat.reduceLeDiff, Nat.reduceLT, reduceCtorEq]
        · have hij' : j = i := by omega
          subst hij'
          have hd2 : decide (((j : Nat) : Int) < ((j : Nat) : Int)) = false := by simp
          simp +contextual only [go_sem, ↓reduceIte, Nat.reduceEqDiff, Nat.reduceAdd, Nat.reduceLeDiff, Nat.reduceLT, reduceCtorEq, k51, hd2]
          refine TriI.loopA hg k51 (fun t : Nat => ⟨slotsL [(0, .own id 0 N), (1, .sc (.int .i64 (a : Nat))), (2, .sc (.int .i64 (m : Nat))), (3, .sc (.int .i64 (b : Nat))), (4, .sc (.func (.func g) #[] #[])), (14, .sc (.int .i64 (j : Nat))), (17, .sc (.int .i64 (a + t : Nat)))], updH H id (.live 2 (row h ((P ++ A.take t) ++ y :: (A.drop t ++ R))) true), n⟩)
            (fun t => j - a ≤ t ∧ t ≤ A.length) (fun t => t) A.length (.slotsH ?_ ?_) ⟨by omega, Nat.le_refl _⟩ ?_
          · simp
          · simp +contextual only [go_sem, ↓reduceIte, Nat.reduceEqDiff, Nat.reduceAdd, Nat.reduceLeDiff, Nat.reduceLT, reduceCtorEq, hA]
          · rintro t ⟨ht1, ht2⟩
            rcases Nat.lt_or_ge (j - a) t with htl | htl
            · obtain ⟨t, rfl⟩ : ∃ u, t = u + 1 := ⟨t - 1, by omega⟩
              have hd3 : decide (((a + (t + 1) : Nat) : Int) > ((j : Nat) : Int)) = true := by simp; omega
              obtain ⟨x, hx⟩ : ∃ x, A[t]? = some x := ⟨A[t]'(by omega), by simp⟩
              obtain ⟨hx1, hx2⟩ := List.getElem?_eq_some_iff.1 hx
              have ed : A.drop t = x :: A.drop (t + 1) := by rw [List.drop_eq_getElem_cons hx1, hx2]
              have et : A.take (t + 1) = A.take t ++ [x] := by rw [List.take_succ, hx]; rfl
              have wt : IntKind.i64.wrap (((a + (t + 1) : Nat) : Int) - 1) = ((a + t : Nat) : Int) := by rw [IntKind.wrap_i64]; omega
              have b1 : ((a + t : Nat) : Int) < ((N : Nat) : Int) := by omega
              have b2 : ((a + (t + 1) : Nat) : Int) < ((N : Nat) : Int) := by omega
              have hPl : (P ++ A.take t).length = a + t := by simp; omega
              rw [show (P ++ A.take (t + 1)) ++ y :: (A.drop (t + 1) ++ R) = (P ++ A.take t) ++ x :: y :: (A.drop (t + 1) ++ R) by rw [et]; simp]
              have gy : (row h ((P ++ A.take t) ++ x :: y :: (A.drop (t + 1) ++ R)))[a + (t + 1)]? = some (.agg (h y)) := row_get (get_snd (M := []) x y hPl (by simp; omega))
              have gx : (row h ((P ++ A.take t) ++ x :: y :: (A.drop (t + 1) ++ R)))[a + t]? = some (.agg (h x)) := row_get (get_mid' hPl x _)
              have gx' : ((row h ((P ++ A.take t) ++ x :: y :: (A.drop (t + 1) ++ R))).set (a + (t + 1)) (.agg (h x)))[a + t]? = some (.agg (h x)) := by
                rw [List.getElem?_set_ne (by omega)]; exact gx
              have hsw2 : ((row h ((P ++ A.take t) ++ x :: y :: (A.drop (t + 1) ++ R))).set (a + (t + 1)) (.agg (h x))).set (a + t) (.agg (h y)) = row h ((P ++ A.take t) ++ y :: (A.drop t ++ R)) := by
                rw [row_set, row_set, ed]
                exact congrArg (row h) ((swap_two' (M := []) x y hPl (by simp; omega)).trans (by simp))
              simp +contextual only [go_sem, ↓reduceIte, Nat.reduceEqDiff, Nat.reduceAdd, Nat.reduceLeDiff, Nat.reduceLT, reduceCtorEq, k51, hd3, wt, b1, b2, gx, gy, gx', hsw2, Nat.zero_add, e.len, e.take, List.drop_zero, Nat.le_refl, Int.natCast_nonneg, Int.toNat_natCast, updH_over, e.wr, e.ok, e.solid]
              refine ⟨(by simp [apartI, apartAll, clash, List.range, List.range.loop] <;> decide), t, by dsimp only; omega, ⟨by omega, by omega⟩, .slotsH rfl ?_⟩
              simp +contextual only [go_sem, ↓reduceIte, Nat.reduceEqDiff, Nat.reduceAdd, Nat.reduceLeDiff, Nat.reduceLT, reduceCtorEq]
            · have hte : t = j - a := by omega
              have hd3 : decide (((a + t : Nat) : Int) > ((j : Nat) : Int)) = false := by simp; omega
              simp +contextual only [go_sem, ↓reduceIte, Nat.reduceEqDiff, Nat.reduceAdd, Nat.reduceLeDiff, Nat.reduceLT, reduceCtorEq, k51, hd3]
              subst hte
              refine ⟨A.take (j - a) ++ y :: A.drop (j - a), ⟨?_, merge_one_right o sA (fun x hx => by have := hAB x hx y (by simp); omega) hcut⟩, by simp⟩
              refine List.perm_middle.trans ?_
              rw [List.take_append_drop]
              exact (List.perm_append_comm (l₁ := [y]) (l₂ := A))
    · have w1 : IntKind.i64.wrap (((m : Nat) : Int) - ((a : Nat) : Int)) = ((A.length : Nat) : Int) := by rw [IntKind.wrap_i64]; omega
      have w2 : IntKind.i64.wrap (((b : Nat) : Int) - ((m : Nat) : Int)) = ((B.length : Nat) : Int) := by rw [IntKind.wrap_i64]; omega
      have hd0 : (((A.length : Nat) : Int) == 1) = false := by simp; omega
      have hd1 : (((B.length : Nat) : Int) == 1) = false := by simp; omega
      have wab := wrapA (i := a) (j := b) (by omega)
      obtain ⟨mid, hmid⟩ : ∃ u, u = (a + b) / 2 := ⟨_, rfl⟩
      have hmm := halfV (i := a + b) (by omega)
      rw [← hmid] at hmm
      have wmm := wrapA (i := mid) (j := m) (by omega)
      have wn1 : IntKind.i64.wrap (((mid + m : Nat) : Int) - 1) = ((mid + m - 1 : Nat) : Int) := by rw [IntKind.wrap_i64]; omega
      rcases Nat.lt_or_ge mid m with hmd | hmd
      · have hd2 : decide (((m : Nat) : Int) > ((mid : Nat) : Int)) = true := by simp; omega
        have wst := wrapS (i := mid + m) (j := b) (by omega) (by omega)
        have hs : (mid < m ∧ mid + m - b = mid + m - b ∧ mid = mid) ∨ (m ≤ mid ∧ mid + m - b = a ∧ mid = m) := .inl ⟨hmd, rfl, rfl⟩
        simp +contextual only [go_sem, ↓reduceIte, Nat.reduceEqDiff, Nat.reduceAdd, Nat.reduceLeDiff, Nat.reduceLT, reduceCtorEq, c51, k51, w1, w2, hd0, hd1, wab, one_pos, not_false_eq_true, hmm, wmm, wn1, hd2, wst]
        refine TriI.loopA hg k51 (fun q : Nat × Nat => ⟨slotsL [(0, .own id 0 N), (1, .sc (.int .i64 (a : Nat))), (2, .sc (.int .i64 (m : Nat))), (3, .sc (.int .i64 (b : Nat))), (4, .sc (.func (.func g) #[] #[])), (18, .sc (.int .i64 (mid : Nat))), (19, .sc (.int .i64 (mid + m : Nat))), (20, .sc (.int .i64 (q.1 : Nat))), (21, .sc (.int .i64 (q.2 : Nat))), (22, .sc (.int .i64 (mid + m - 1 : Nat)))], updH H id (.live 2 (row h (P ++ A ++ B ++ R)) true), n⟩)
          (fun q => (mid + m - b) ≤ q.1 ∧ q.1 ≤ q.2 ∧ q.2 ≤ (mid) ∧ Seek L A B a mid (mid + m - b) (mid) q.1 q.2) (fun q => q.2 - q.1) (mid + m - b, mid) (.slotsH rfl ?_) ⟨Nat.le_refl _, by dsimp only; omega, Nat.le_refl _, Seek.init L A B a mid (mid + m - b) (mid)⟩ ?_
        · simp +contextual only [go_sem, ↓reduceIte, Nat.reduceEqDiff, Nat.reduceAdd, Nat.reduceLeDiff, Nat.reduceLT, reduceCtorEq]
        · rintro ⟨i, j⟩ ⟨h1, h2, h3, hsk⟩
          dsimp only at h1 h2 h3 hsk ⊢
          rcases Nat.lt_or_ge i j with hij | hij
          · have hd3 : decide (((i : Nat) : Int) < ((j : Nat) : Int)) = true := by simp; omega
            have wij := wrapA (i := i) (j := j) (by omega)
            obtain ⟨p, hp1, hp2, hpp⟩ := half hij (by omega)
            have wpc := wrapS (i := mid + m - 1) (j := p) (by omega) (by omega)
            have b1 : ((p : Nat) : Int) < ((N : Nat) : Int) := by omega
            have b2 : ((mid + m - 1 - p : Nat) : Int) < ((N : Nat) : Int) := by omega
            obtain ⟨x, hx⟩ : ∃ x, A[p - a]? = some x := ⟨A[p - a]'(by omega), by simp⟩
            obtain ⟨y, hy⟩ : ∃ y, B[mid - 1 - p]? = some y := ⟨B[mid - 1 - p]'(by omega), by simp⟩
            have hyx := hAB x (List.mem_of_getElem? hx) y (List.mem_of_getElem? hy)
            have gx : (row h (P ++ A ++ B ++ R))[p]? = some (.agg (h x)) := row_get (by
              rw [List.append_assoc, List.getElem?_append_left (by simp; omega), List.getElem?_append_right (by omega)]
              rw [← hx]; congr 1; omega)
            have gy : (row h (P ++ A ++ B ++ R))[mid + m - 1 - p]? = some (.agg (h y)) := row_get (by
              rw [List.getElem?_append_left (by simp; omega), List.getElem?_append_right (by simp; omega)]
              rw [← hy]; congr 1; simp; omega)
            simp +contextual only [go_sem, ↓reduceIte, Nat.reduceEqDiff, Nat.reduceAdd, Nat.reduceLeDiff, Nat.reduceLT, reduceCtorEq, k51, hd3, hpp, wij, wpc, one_pos, not_false_eq_true, b1, b2, gy, gx, Nat.zero_add, e.len, e.take, List.drop_zero, Nat.le_refl, Int.natCast_nonneg, Int.toNat_natCast]
            refine ⟨rfl, (by simp [apartI, apartAll, clash, List.range, List.range.loop] <;> decide), hc y x _ _ _ ?_⟩
            by_cases hlt : c y x < 0
            · have hd : decide (c y x < (0 : Int)) = true := decide_eq_true hlt
              have hyL := (hL y x hyx).1 hlt
              simp +contextual only [go_sem, ↓reduceIte, Nat.reduceEqDiff, Nat.reduceAdd, Nat.reduceLeDiff, Nat.reduceLT, reduceCtorEq, k51, hd, Bool.not_true]
              refine ⟨(i, p), by dsimp only; omega, ⟨h1, by dsimp only; omega, by dsimp only; omega, ?_⟩, .slotsH rfl ?_⟩
              · exact hsk.down o sA sB (by omega) (by omega) hx hy hyL
              · simp +contextual only [go_sem, ↓reduceIte, Nat.reduceEqDiff, Nat.reduceAdd, Nat.reduceLeDiff, Nat.reduceLT, reduceCtorEq]
            · have hd : decide (c y x < (0 : Int)) = false := decide_eq_false hlt
              have wp := wrapP (i := p) (by omega)
              have hyL : ¬ L y x := fun g => hlt ((hL y x hyx).2 g)
              simp +contextual only [go_sem, ↓reduceIte, Nat.reduceEqDiff, Nat.reduceAdd, Nat.reduceLeDiff, Nat.reduceLT, reduceCtorEq, k51, hd, wp, Bool.not_false]
              refine ⟨(p + 1, j), by dsimp only; omega, ⟨by dsimp only; omega, by dsimp only; omega, h3, ?_⟩, .slotsH rfl ?_⟩
              · exact hsk.up o sA sB (by omega) (by omega) hx hy hyL
              · simp +contextual only [go_sem, ↓reduceIte, Nat.reduceEqDiff, Nat.reduceAdd, Nat.reduceLeDiff, Nat.reduceLT, reduceCtorEq]
          · obtain rfl : j = i := by omega
            have hd3 : decide (((j : Nat) : Int) < ((j : Nat) : Int)) = false := by simp
            have wen := wrapS (i := mid + m) (j := j) (by omega) (by omega)
            obtain ⟨c1, c2⟩ := hsk.cut o sA sB (fun x hx y hy => by have := hAB x hx y hy; omega) hA hB hmid hs h1 h3
            have hmrg := fun C D => merge_mid (L := L) (A := A) (B := B) (C := C) (D := D) (s := j - a) (t := mid - j) (by omega) (by omega) sA sB c1 c2
            have eA : A = A.take (j - a) ++ A.drop (j - a) := (List.take_append_drop _ _).symm
            have eB : B = B.take (mid - j) ++ B.drop (mid - j) := (List.take_append_drop _ _).symm
            have lA1 : (A.take (j - a)).length = j - a := by simp; omega
            have lA2 : (A.drop (j - a)).length = m - j := by simp; omega
            have lB1 : (B.take (mid - j)).length = mid - j := by simp; omega
            have lB2 : (B.drop (mid - j)).length = b - (mid + m - j) := by simp; omega
            have sA1 : Srt L (A.take (j - a)) := (by rw [eA] at sA; exact sA.left)
            have sA2 : Srt L (A.drop (j - a)) := (by rw [eA] at sA; exact sA.right)
            have sB1 : Srt L (B.take (mid - j)) := (by rw [eB] at sB; exact sB.left)
            have sB2 : Srt L (B.drop (mid - j)) := (by rw [eB] at sB; exact sB.right)
            have hAB1 : ∀ x, x ∈ A.take (j - a) → ∀ y, y ∈ B.take (mid - j) → x < y := fun x hx y hy => hAB x (List.mem_of_mem_take hx) y (List.mem_of_mem_take hy)
            have hAB2 : ∀ x, x ∈ A.drop (j - a) → ∀ y, y ∈ B.drop (mid - j) → x < y := fun x hx y hy => hAB x (List.mem_of_mem_drop hx) y (List.mem_of_mem_drop hy)
            have eAB : P ++ A ++ B ++ R = P ++ A.take (j - a) ++ A.drop (j - a) ++ B.take (mid - j) ++ (B.drop (mid - j) ++ R) := (fun A1 A2 B1 B2 (g1 : A = A1 ++ A2) (g2 : B = B1 ++ B2) => (by rw [g1, g2]; simp : P ++ A ++ B ++ R = P ++ A1 ++ A2 ++ B1 ++ (B2 ++ R))) _ _ _ _ eA eB
            rw [eAB]
            generalize A.take (j - a) = A1 at *
            generalize A.drop (j - a) = A2 at *
            generalize B.take (mid - j) = B1 at *
            generalize B.drop (mid - j) = B2 at *
            by_cases hr : j < m ∧ m < mid + m - j
            · have hr1 : decide (((j : Nat) : Int) < ((m : Nat) : Int)) = true := by simp; omega
              have hr2 : decide (((m : Nat) : Int) < ((mid + m - j : Nat) : Int)) = true := by simp; omega
              simp +contextual only [go_sem, ↓reduceIte, Nat.reduceEqDiff, Nat.reduceAdd, Nat.reduceLeDiff, Nat.reduceLT, reduceCtorEq, k51, Bool.false_and, Bool.true_and, hd3, wen, hr1, hr2, hro]
              refine ctRot hg hsw e (P := P ++ A1) (U := A2) (V' := B1) (R := B2 ++ R) (by simp; omega) (by omega) (by omega) (by simp; omega) hbig (by omega) (by omega) (by simp [updH]) ?_
              rw [updH_over]
              by_cases hq : a < j ∧ j < mid
              · have hq1 : decide (((a : Nat) : Int) < ((j : Nat) : Int)) = true := by simp; omega
                have hq2 : decide (((j : Nat) : Int) < ((mid : Nat) : Int)) = true := by simp; omega
                simp +contextual only [go_sem, ↓reduceIte, Nat.reduceEqDiff, Nat.reduceAdd, Nat.reduceLeDiff, Nat.reduceLT, reduceCtorEq, k51, Bool.false_and, Bool.true_and, hq1, hq2, hsy]
                refine ih (P := P) (A := A1) (B := B1) (R := A2 ++ (B2 ++ R)) (by omega) hP (by omega) (by omega) (by simp; omega) (by omega) (by omega) sA1 sB1 hAB1 (by simp [updH]) fun C' hC' => ?_
                rw [updH_over]
                have lC := hC'.1.length_eq
                rw [List.length_append] at lC
                by_cases hz : mid < mid + m - j ∧ mid + m - j < b
                · have hz1 : decide (((mid : Nat) : Int) < ((mid + m - j : Nat) : Int)) = true := by simp; omega
                  have hz2 : decide (((mid + m - j : Nat) : Int) < ((b : Nat) : Int)) = true := by simp; omega
                  simp +contextual only [go_sem, ↓reduceIte, Nat.reduceEqDiff, Nat.reduceAdd, Nat.reduceLeDiff, Nat.reduceLT, reduceCtorEq, k51, Bool.false_and, Bool.true_and, hz1, hz2, hsy]
                  refine ih (P := P ++ C') (A := A2) (B := B2) (R := R) (by omega) (by simp; omega) (by omega) (by omega) hN (by omega) (by omega) sA2 sB2 hAB2 (by simp [updH]) fun D' hD' => ?_
                  rw [updH_over]
                  simp +contextual only [go_sem, ↓reduceIte, Nat.reduceEqDiff, Nat.reduceAdd, Nat.reduceLeDiff, Nat.reduceLT, reduceCtorEq, k51]
                  obtain ⟨z1, z2⟩ := hmrg C' D' hC'.1 hC'.2 hD'.1 hD'.2
                  exact ⟨C' ++ D', ⟨z2, z1⟩, by simp⟩
                · have hD' : Srt L (A2 ++ B2) := by
                    rcases Nat.lt_or_ge mid (mid + m - j) with g2 | g2
                    · rw [List.eq_nil_of_length_eq_zero (l := B2) (by omega), List.append_nil]; exact sA2
                    · rw [List.eq_nil_of_length_eq_zero (l := A2) (by omega), List.nil_append]; exact sB2
                  obtain ⟨z1, z2⟩ := hmrg C' (A2 ++ B2) hC'.1 hC'.2 (.refl _) hD'
                  rcases Nat.lt_or_ge mid (mid + m - j) with g2 | g2
                  · have hz1 : decide (((mid : Nat) : Int) < ((mid + m - j : Nat) : Int)) = true := by simp; omega
                    have hz2 : decide (((mid + m - j : Nat) : Int) < ((b : Nat) : Int)) = false := by simp; omega
                    simp +contextual only [go_sem, ↓reduceIte, Nat.reduceEqDiff, Nat.reduceAdd, Nat.reduceLeDiff, Nat.reduceLT, reduceCtorEq, k51, Bool.false_and, Bool.true_and, hz1, hz2]
                    exact ⟨C' ++ (A2 ++ B2), ⟨z2, z1⟩, by simp⟩
                  · have hz1 : decide (((mid : Nat) : Int) < ((mid + m - j : Nat) : Int)) = false := by simp; omega
                    simp +contextual only [go_sem, ↓reduceIte, Nat.reduceEqDiff, Nat.reduceAdd, Nat.reduceLeDiff, Nat.reduceLT, reduceCtorEq, k51, Bool.false_and, Bool.true_and, hz1]
                    exact ⟨C' ++ (A2 ++ B2), ⟨z2, z1⟩, by simp⟩
              · obtain ⟨C', hCe, hC'⟩ : ∃ C', C' = A1 ++ B1 ∧ C'.Perm (A1 ++ B1) ∧ Srt L C' := by
                  refine ⟨_, rfl, .refl _, ?_⟩
                  rcases Nat.lt_or_ge a j with g' | g'
                  · rw [List.eq_nil_of_length_eq_zero (l := B1) (by omega), List.append_nil]; exact sA1
                  · rw [List.eq_nil_of_length_eq_zero (l := A1) (by omega), List.nil_append]; exact sB1
                rw [show P ++ A1 ++ B1 ++ A2 ++ (B2 ++ R) = P ++ C' ++ (A2 ++ (B2 ++ R)) by rw [hCe]; simp]
                rcases Nat.lt_or_ge a j with g' | g'
                · have hq1 : decide (((a : Nat) : Int) < ((j : Nat) : Int)) = true := by simp; omega
                  have hq2 : decide (((j : Nat) : Int) < ((mid : Nat) : Int)) = false := by simp; omega
                  have lC := hC'.1.length_eq
                  rw [List.length_append] at lC
                  by_cases hz : mid < mid + m - j ∧ mid + m - j < b
                  · have hz1 : decide (((mid : Nat) : Int) < ((mid + m - j : Nat) : Int)) = true := by simp; omega
                    have hz2 : decide (((mid + m - j : Nat) : Int) < ((b : Nat) : Int)) = true := by simp; omega
                    simp +contextual only [go_sem, ↓reduceIte, Nat.reduceEqDiff, Nat.reduceAdd, Nat.reduceLeDiff, Nat.reduceLT, reduceCtorEq, k51, Bool.false_and, Bool.true_and, hq1, hq2, hz1, hz2, hsy]
                    refine ih (P := P ++ C') (A := A2) (B := B2) (R := R) (by omega) (by simp; omega) (by omega) (by omega) hN (by omega) (by omega) sA2 sB2 hAB2 (by simp [updH]) fun D' hD' => ?_
                    rw [updH_over]
                    simp +contextual only [go_sem, ↓reduceIte, Nat.reduceEqDiff, Nat.reduceAdd, Nat.reduceLeDiff, Nat.reduceLT, reduceCtorEq, k51]
                    obtain ⟨z1, z2⟩ := hmrg C' D' hC'.1 hC'.2 hD'.1 hD'.2
                    exact ⟨C' ++ D', ⟨z2, z1⟩, by simp⟩
                  · have hD' : Srt L (A2 ++ B2) := by
                      rcases Nat.lt_or_ge mid (mid + m - j) with g2 | g2
                      · rw [List.eq_nil_of_length_eq_zero (l := B2) (by omega), List.append_nil]; exact sA2
                      · rw [List.eq_nil_of_length_eq_zero (l := A2) (by omega), List.nil_append]; exact sB2
                    obtain ⟨z1, z2⟩ := hmrg C' (A2 ++ B2) hC'.1 hC'.2 (.refl _) hD'
                    rcases Nat.lt_or_ge mid (mid + m - j) with g2 | g2
                    · have hz1 : decide (((mid : Nat) : Int) < ((mid + m - j : Nat) : Int)) = true := by simp; omega
                      have hz2 : decide (((mid + m - j : Nat) : Int) < ((b : Nat) : Int)) = false := by simp; omega
                      simp +contextual only [go_sem, ↓reduceIte, Nat.reduceEqDiff, Nat.reduceAdd, Nat.reduceLeDiff, Nat.reduceLT, reduceCtorEq, k51, Bool.false_and, Bool.true_and, hq1, hq2, hz1, hz2]
                      exact ⟨C' ++ (A2 ++ B2), ⟨z2, z1⟩, by simp⟩
                    · have hz1 : decide (((mid : Nat) : Int) < ((mid + m - j : Nat) : Int)) = false := by simp; omega
                      simp +contextual only [go_sem, ↓reduceIte, Nat.reduceEqDiff, Nat.reduceAdd, Nat.reduceLeDiff, Nat.reduceLT, reduceCtorEq, k51, Bool.false_and, Bool.true_and, hq1, hq2, hz1]
                      exact ⟨C' ++ (A2 ++ B2), ⟨z2, z1⟩, by simp⟩
                · have hq1 : decide (((a : Nat) : Int) < ((j : Nat) : Int)) = false := by simp; omega
                  have lC := hC'.1.length_eq
                  rw [List.length_append] at lC
                  by_cases hz : mid < mid + m - j ∧ mid + m - j < b
                  · have hz1 : decide (((mid : Nat) : Int) < ((mid + m - j : Nat) : Int)) = true := by simp; omega
                    have hz2 : decide (((mid + m - j : Nat) : Int) < ((b : Nat) : Int)) = true := by simp; omega
                    simp +contextual only [go_sem, ↓reduceIte, Nat.reduceEqDiff, Nat.reduceAdd, Nat.reduceLeDiff, Nat.reduceLT, reduceCtorEq, k51, Bool.false_and, Bool.true_and, hq1, hz1, hz2, hsy]
                    refine ih (P := P ++ C') (A := A2) (B := B2) (R := R) (by omega) (by simp; omega) (by omega) (by omega) hN (by omega) (by omega) sA2 sB2 hAB2 (by simp [updH]) fun D' hD' => ?_
                    rw [updH_over]
                    simp +contextual only [go_sem, ↓reduceIte, Nat.reduceEqDiff, Nat.reduceAdd, Nat.reduceLeDiff, Nat.reduceLT, reduceCtorEq, k51]
                    obtain ⟨z1, z2⟩ := hmrg C' D' hC'.1 hC'.2 hD'.1 hD'.2
                    exact ⟨C' ++ D', ⟨z2, z1⟩, by simp⟩
                  · have hD' : Srt L (A2 ++ B2) := by
                      rcases Nat.lt_or_ge mid (mid + m - j) with g2 | g2
                      · rw [List.eq_nil_of_length_eq_zero (l := B2) (by omega), List.append_nil]; exact sA2
                      · rw [List.eq_nil_of_length_eq_zero (l := A2) (by omega), List.nil_append]; exact sB2
                    obtain ⟨z1, z2⟩ := hmrg C' (A2 ++ B2) hC'.1 hC'.2 (.refl _) hD'
                    rcases Nat.lt_or_ge mid (mid + m - j) with g2 | g2
                    · have hz1 : decide (((mid : Nat) : Int) < ((mid + m - j : Nat) : Int)) = true := by simp; omega
                      have hz2 : decide (((mid + m - j : Nat) : Int) < ((b : Nat) : Int)) = false := by simp; omega
                      simp +contextual only [go_sem, ↓reduceIte, Nat.reduceEqDiff, Nat.reduceAdd, Nat.reduceLeDiff, Nat.reduceLT, reduceCtorEq, k51, Bool.false_and, Bool.true_and, hq1, hz1, hz2]
                      exact ⟨C' ++ (A2 ++ B2), ⟨z2, z1⟩, by simp⟩
                    · have hz1 : decide (((mid : Nat) : Int) < ((mid + m - j : Nat) : Int)) = false := by simp; omega
                      simp +contextual only [go_sem, ↓reduceIte, Nat.reduceEqDiff, Nat.reduceAdd, Nat.reduceLeDiff, Nat.reduceLT, reduceCtorEq, k51, Bool.false_and, Bool.true_and, hq1, hz1]
                      exact ⟨C' ++ (A2 ++ B2), ⟨z2, z1⟩, by simp⟩
            · have hemp : A2 = [] ∨ B1 = [] := by
                rcases Nat.lt_or_ge j m with g | g
                · exact .inr (List.eq_nil_of_length_eq_zero (by omega))
                · exact .inl (List.eq_nil_of_length_eq_zero (by omega))
              have esw : P ++ A1 ++ A2 ++ B1 ++ (B2 ++ R) = P ++ A1 ++ B1 ++ A2 ++ (B2 ++ R) := by rcases hemp with g | g <;> simp [g]
              rw [esw]
              rcases Nat.lt_or_ge j m with g | g
              · have hr1 : decide (((j : Nat) : Int) < ((m : Nat) : Int)) = true := by simp; omega
                have hr2 : decide (((m : Nat) : Int) < ((mid + m - j : Nat) : Int)) = false := by simp; omega
                by_cases hq : a < j ∧ j < mid
                · have hq1 : decide (((a : Nat) : Int) < ((j : Nat) : Int)) = true := by simp; omega
                  have hq2 : decide (((j : Nat) : Int) < ((mid : Nat) : Int)) = true := by simp; omega
                  simp +contextual only [go_sem, ↓reduceIte, Nat.reduceEqDiff, Nat.reduceAdd, Nat.reduceLeDiff, Nat.reduceLT, reduceCtorEq, k51, Bool.false_and, Bool.true_and, hd3, wen, hr1, hr2, hq1, hq2, hsy]
                  refine ih (P := P) (A := A1) (B := B1) (R := A2 ++ (B2 ++ R)) (by omega) hP (by omega) (by omega) (by simp; omega) (by omega) (by omega) sA1 sB1 hAB1 (by simp [updH]) fun C' hC' => ?_
                  rw [updH_over]
                  have lC := hC'.1.length_eq
                  rw [List.length_append] at lC
                  by_cases hz : mid < mid + m - j ∧ mid + m - j < b
                  · have hz1 : decide (((mid : Nat) : Int) < ((mid + m - j : Nat) : Int)) = true := by simp; omega
                    have hz2 : decide (((mid + m - j : Nat) : Int) < ((b : Nat) : Int)) = true := by simp; omega
                    simp +contextual only [go_sem, ↓reduceIte, Nat.reduceEqDiff, Nat.reduceAdd, Nat.reduceLeDiff, Nat.reduceLT, reduceCtorEq, k51, Bool.false_and, Bool.true_and, hz1, hz2, hsy]
                    refine ih (P := P ++ C') (A := A2) (B := B2) (R := R) (by omega) (by simp; omega) (by omega) (by omega) hN (by omega) (by omega) sA2 sB2 hAB2 (by simp [updH]) fun D' hD' => ?_
                    rw [updH_over]
                    simp +contextual only [go_sem, ↓reduceIte, Nat.reduceEqDiff, Nat.reduceAdd, Nat.reduceLeDiff, Nat.reduceLT, reduceCtorEq, k51]
                    obtain ⟨z1, z2⟩ := hmrg C' D' hC'.1 hC'.2 hD'.1 hD'.2
                    exact ⟨C' ++ D', ⟨z2, z1⟩, by simp⟩
                  · have hD' : Srt L (A2 ++ B2) := by
                      rcases Nat.lt_or_ge mid (mid + m - j) with g2 | g2
                      · rw [List.eq_nil_of_length_eq_zero (l := B2) (by omega), List.append_nil]; exact sA2
                      · rw [List.eq_nil_of_length_eq_zero (l := A2) (by omega), List.nil_append]; exact sB2
                    obtain ⟨z1, z2⟩ := hmrg C' (A2 ++ B2) hC'.1 hC'.2 (.refl _) hD'
                    rcases Nat.lt_or_ge mid (mid + m - j) with g2 | g2
                    · have hz1 : decide (((mid : Nat) : Int) < ((mid + m - j : Nat) : Int)) = true := by simp; omega
                      have hz2 : decide (((mid + m - j : Nat) : Int) < ((b : Nat) : Int)) = false := by simp; omega
                      simp +contextual only [go_sem, ↓reduceIte, Nat.reduceEqDiff, Nat.reduceAdd, Nat.reduceLeDiff, Nat.reduceLT, reduceCtorEq, k51, Bool.false_and, Bool.true_and, hz1, hz2]
                      exact ⟨C' ++ (A2 ++ B2), ⟨z2, z1⟩, by simp⟩
                    · have hz1 : decide (((mid : Nat) : Int) < ((mid + m - j : Nat) : Int)) = false := by simp; omega
                      simp +contextual only [go_sem, ↓reduceIte, Nat.reduceEqDiff, Nat.reduceAdd, Nat.reduceLeDiff, Nat.reduceLT, reduceCtorEq, k51, Bool.false_and, Bool.true_and, hz1]
                      exact ⟨C' ++ (A2 ++ B2), ⟨z2, z1⟩, by simp⟩
                · obtain ⟨C', hCe, hC'⟩ : ∃ C', C' = A1 ++ B1 ∧ C'.Perm (A1 ++ B1) ∧ Srt L C' := by
                    refine ⟨_, rfl, .refl _, ?_⟩
                    rcases Nat.lt_or_ge a j with g' | g'
                    · rw [List.eq_nil_of_length_eq_zero (l := B1) (by omega), List.append_nil]; exact sA1
                    · rw [List.eq_nil_of_length_eq_zero (l := A1) (by omega), List.nil_append]; exact sB1
                  rw [show P ++ A1 ++ B1 ++ A2 ++ (B2 ++ R) = P ++ C' ++ (A2 ++ (B2 ++ R)) by rw [hCe]; simp]
                  rcases Nat.lt_or_ge a j with g' | g'
                  · have hq1 : decide (((a : Nat) : Int) < ((j : Nat) : Int)) = true := by simp; omega
                    have hq2 : decide (((j : Nat) : Int) < ((mid : Nat) : Int)) = false := by simp; omega
                    have lC := hC'.1.length_eq
                    rw [List.length_append] at lC
                    by_cases hz : mid < mid + m - j ∧ mid + m - j < b
                    · have hz1 : decide (((mid : Nat) : Int) < ((mid + m - j : Nat) : Int)) = true := by simp; omega
                      have hz2 : decide (((mid + m - j : Nat) : Int) < ((b : Nat) : Int)) = true := by simp; omega
                      simp +contextual only [go_sem, ↓reduceIte, Nat.reduceEqDiff, Nat.reduceAdd, Nat.reduceLeDiff, Nat.reduceLT, reduceCtorEq, k51, Bool.false_and, Bool.true_and, hd3, wen, hr1, hr2, hq1, hq2, hz1, hz2, hsy]
                      refine ih (P := P ++ C') (A := A2) (B := B2) (R := R) (by omega) (by simp; omega) (by omega) (by omega) hN (by omega) (by omega) sA2 sB2 hAB2 (by simp [updH]) fun D' hD' => ?_
                      rw [updH_over]
                      simp +contextual only [go_sem, ↓reduceIte, Nat.reduceEqDiff, Nat.reduceAdd, Nat.reduceLeDiff, Nat.reduceLT, reduceCtorEq, k51]
                      obtain ⟨z1, z2⟩ := hmrg C' D' hC'.1 hC'.2 hD'.1 hD'.2
                      exact ⟨C' ++ D', ⟨z2, z1⟩, by simp⟩
                    · have hD' : Srt L (A2 ++ B2) := by
                        rcases Nat.lt_or_ge mid (mid + m - j) with g2 | g2
                        · rw [List.eq_nil_of_length_eq_zero (l := B2) (by omega), List.append_nil]; exact sA2
                        · rw [List.eq_nil_of_length_eq_zero (l := A2) (by omega), List.nil_append]; exact sB2
                      obtain ⟨z1, z2⟩ := hmrg C' (A2 ++ B2) hC'.1 hC'.2 (.refl _) hD'
                      rcases Nat.lt_or_ge mid (mid + m - j) with g2 | g2
                      · have hz1 : decide (((mid : Nat) : Int) < ((mid + m - j : Nat) : Int)) = true := by simp; omega
                        have hz2 : decide (((mid + m - j : Nat) : Int) < ((b : Nat) : Int)) = false := by simp; omega
                        simp +contextual only [go_sem, ↓reduceIte, Nat.reduceEqDiff, Nat.reduceAdd, Nat.reduceLeDiff, Nat.reduceLT, reduceCtorEq, k51, Bool.false_and, Bool.true_and, hd3, wen, hr1, hr2, hq1, hq2, hz1, hz2]
                        exact ⟨C' ++ (A2 ++ B2), ⟨z2, z1⟩, by simp⟩
                      · have hz1 : decide (((mid : Nat) : Int) < ((mid + m - j : Nat) : Int)) = false := by simp; omega
                        simp +contextual only [go_sem, ↓reduceIte, Nat.reduceEqDiff, Nat.reduceAdd, Nat.reduceLeDiff, Nat.reduceLT, reduceCtorEq, k51, Bool.false_and, Bool.true_and, hd3, wen, hr1, hr2, hq1, hq2, hz1]
                        exact ⟨C' ++ (A2 ++ B2), ⟨z2, z1⟩, by simp⟩
                  · have hq1 : decide (((a : Nat) : Int) < ((j : Nat) : Int)) = false := by simp; omega
                    have lC := hC'.1.length_eq
                    rw [List.length_append] at lC
                    by_cases hz : mid < mid + m - j ∧ mid + m - j < b
                    · have hz1 : decide (((mid : Nat) : Int) < ((mid + m - j : Nat) : Int)) = true := by simp; omega
                      have hz2 : decide (((mid + m - j : Nat) : Int) < ((b : Nat) : Int)) = true := by simp; omega
                      simp +contextual only [go_sem, ↓reduceIte, Nat.reduceEqDiff, Nat.reduceAdd, Nat.reduceLeDiff, Nat.reduceLT, reduceCtorEq, k51, Bool.false_and, Bool.true_and, hd3, wen, hr1, hr2, hq1, hz1, hz2, hsy]
                      refine ih (P := P ++ C') (A := A2) (B := B2) (R := R) (by omega) (by simp; omega) (by omega) (by omega) hN (by omega) (by omega) sA2 sB2 hAB2 (by simp [updH]) fun D' hD' => ?_
                      rw [updH_over]
                      simp +contextual only [go_sem, ↓reduceIte, Nat.reduceEqDiff, Nat.reduceAdd, Nat.reduceLeDiff, Nat.reduceLT, reduceCtorEq, k51]
                      obtain ⟨z1, z2⟩ := hmrg C' D' hC'.1 hC'.2 hD'.1 hD'.2
                      exact ⟨C' ++ D', ⟨z2, z1⟩, by simp⟩
                    · have hD' : Srt L (A2 ++ B2) := by
                        rcases Nat.lt_or_ge mid (mid + m - j) with g2 | g2
                        · rw [List.eq_nil_of_length_eq_zero (l := B2) (by omega), List.append_nil]; exact sA2
                        · rw [List.eq_nil_of_length_eq_zero (l := A2) (by omega), List.nil_append]; exact sB2
                      obtain ⟨z1, z2⟩ := hmrg C' (A2 ++ B2) hC'.1 hC'.2 (.refl _) hD'
                      rcases Nat.lt_or_ge mid (mid + m - j) with g2 | g2
                      · have hz1 : decide (((mid : Nat) : Int) < ((mid + m - j : Nat) : Int)) = true := by simp; omega
                        have hz2 : decide (((mid + m - j : Nat) : Int) < ((b : Nat) : Int)) = false := by simp; omega
                        simp +contextual only [go_sem, ↓reduceIte, Nat.reduceEqDiff, Nat.reduceAdd, Nat.reduceLeDiff, Nat.reduceLT, reduceCtorEq, k51, Bool.false_and, Bool.true_and, hd3, wen, hr1, hr2, hq1, hz1, hz2]
                        exact ⟨C' ++ (A2 ++ B2), ⟨z2, z1⟩, by simp⟩
                      · have hz1 : decide (((mid : Nat) : Int) < ((mid + m - j : Nat) : Int)) = false := by simp; omega
                        simp +contextual only [go_sem, ↓reduceIte, Nat.reduceEqDiff, Nat.reduceAdd, Nat.reduceLeDiff, Nat.reduceLT, reduceCtorEq, k51, Bool.false_and, Bool.true_and, hd3, wen, hr1, hr2, hq1, hz1]
                        exact ⟨C' ++ (A2 ++ B2), ⟨z2, z1⟩, by simp⟩
              · have hr1 : decide (((j : Nat) : Int) < ((m : Nat) : Int)) = false := by simp; omega
                by_cases hq : a < j ∧ j < mid
                · have hq1 : decide (((a : Nat) : Int) < ((j : Nat) : Int)) = true := by simp; omega
                  have hq2 : decide (((j : Nat) : Int) < ((mid : Nat) : Int)) = true := by simp; omega
                  simp +contextual only [go_sem, ↓reduceIte, Nat.reduceEqDiff, Nat.reduceAdd, Nat.reduceLeDiff, Nat.reduceLT, reduceCtorEq, k51, Bool.false_and, Bool.true_and, hd3, wen, hr1, hq1, hq2, hsy]
                  refine ih (P := P) (A := A1) (B := B1) (R := A2 ++ (B2 ++ R)) (by omega) hP (by omega) (by omega) (by simp; omega) (by omega) (by omega) sA1 sB1 hAB1 (by simp [updH]) fun C' hC' => ?_
                  rw [updH_over]
                  have lC := hC'.1.length_eq
                  rw [List.length_append] at lC
                  by_cases hz : mid < mid + m - j ∧ mid + m - j < b
                  · have hz1 : decide (((mid : Nat) : Int) < ((mid + m - j : Nat) : Int)) = true := by simp; omega
                    have hz2 : decide (((mid + m - j : Nat) : Int) < ((b : Nat) : Int)) = true := by simp; omega
                    simp +contextual only [go_sem, ↓reduceIte, Nat.reduceEqDiff, Nat.reduceAdd, Nat.reduceLeDiff, Nat.reduceLT, reduceCtorEq, k51, Bool.false_and, Bool.true_and, hz1, hz2, hsy]
                    refine ih (P := P ++ C') (A := A2) (B := B2) (R := R) (by omega) (by simp; omega) (by omega) (by omega) hN (by omega) (by omega) sA2 sB2 hAB2 (by simp [updH]) fun D' hD' => ?_
                    rw [updH_over]
                    simp +contextual only [go_sem, ↓reduceIte, Nat.reduceEqDiff, Nat.reduceAdd, Nat.reduceLeDiff, Nat.reduceLT, reduceCtorEq, k51]
                    obtain ⟨z1, z2⟩ := hmrg C' D' hC'.1 hC'.2 hD'.1 hD'.2
                    exact ⟨C' ++ D', ⟨z2, z1⟩, by simp⟩
                  · have hD' : Srt L (A2 ++ B2) := by
                      rcases Nat.lt_or_ge mid (mid + m - j) with g2 | g2
                      · rw [List.eq_nil_of_length_eq_zero (l := B2) (by omega), List.append_nil]; exact sA2
                      · rw [List.eq_nil_of_length_eq_zero (l := A2) (by omega), List.nil_append]; exact sB2
                    obtain ⟨z1, z2⟩ := hmrg C' (A2 ++ B2) hC'.1 hC'.2 (.refl _) hD'
                    rcases Nat.lt_or_ge mid (mid + m - j) with g2 | g2
                    · have hz1 : decide (((mid : Nat) : Int) < ((mid + m - j : Nat) : Int)) = true := by simp; omega
                      have hz2 : decide (((mid + m - j : Nat) : Int) < ((b : Nat) : Int)) = false := by simp; omega
                      simp +contextual only [go_sem, ↓reduceIte, Nat.reduceEqDiff, Nat.reduceAdd, Nat.reduceLeDiff, Nat.reduceLT, reduceCtorEq, k51, Bool.false_and, Bool.true_and, hz1, hz2]
                      exact ⟨C' ++ (A2 ++ B2), ⟨z2, z1⟩, by simp⟩
                    · have hz1 : decide (((mid : Nat) : Int) < ((mid + m - j : Nat) : Int)) = false := by simp; omega
                      simp +contextual only [go_sem, ↓reduceIte, Nat.reduceEqDiff, Nat.reduceAdd, Nat.reduceLeDiff, Nat.reduceLT, reduceCtorEq, k51, Bool.false_and, Bool.true_and, hz1]
                      exact ⟨C' ++ (A2 ++ B2), ⟨z2, z1⟩, by simp⟩
                · obtain ⟨C', hCe, hC'⟩ : ∃ C', C' = A1 ++ B1 ∧ C'.Perm (A1 ++ B1) ∧ Srt L C' := by
                    refine ⟨_, rfl, .refl _, ?_⟩
                    rcases Nat.lt_or_ge a j with g' | g'
                    · rw [List.eq_nil_of_length_eq_zero (l := B1) (by omega), List.append_nil]; exact sA1
                    · rw [List.eq_nil_of_length_eq_zero (l := A1) (by omega), List.nil_append]; exact sB1
                  rw [show P ++ A1 ++ B1 ++ A2 ++ (B2 ++ R) = P ++ C' ++ (A2 ++ (B2 ++ R)) by rw [hCe]; simp]
                  rcases Nat.lt_or_ge a j with g' | g'
                  · have hq1 : decide (((a : Nat) : Int) < ((j : Nat) : Int)) = true := by simp; omega
                    have hq2 : decide (((j : Nat) : Int) < ((mid : Nat) : Int)) = false := by simp; omega
                    have lC := hC'.1.length_eq
                    rw [List.length_append] at lC
                    by_cases hz : mid < mid + m - j ∧ mid + m - j < b
                    · have hz1 : decide (((mid : Nat) : Int) < ((mid + m - j : Nat) : Int)) = true := by simp; omega
                      have hz2 : decide (((mid + m - j : Nat) : Int) < ((b : Nat) : Int)) = true := by simp; omega
                      simp +contextual only [go_sem, ↓reduceIte, Nat.reduceEqDiff, Nat.reduceAdd, Nat.reduceLeDiff, Nat.reduceLT, reduceCtorEq, k51, Bool.false_and, Bool.true_and, hd3, wen, hr1, hq1, hq2, hz1, hz2, hsy]
                      refine ih (P := P ++ C') (A := A2) (B := B2) (R := R) (by omega) (by simp; omega) (by omega) (by omega) hN (by omega) (by omega) sA2 sB2 hAB2 (by simp [updH]) fun D' hD' => ?_
                      rw [updH_over]
                      simp +contextual only [go_sem, ↓reduceIte, Nat.reduceEqDiff, Nat.reduceAdd, Nat.reduceLeDiff, Nat.reduceLT, reduceCtorEq, k51]
                      obtain ⟨z1, z2⟩ := hmrg C' D' hC'.1 hC'.2 hD'.1 hD'.2
                      exact ⟨C' ++ D', ⟨z2, z1⟩, by simp⟩
                    · have hD' : Srt L (A2 ++ B2) := by
                        rcases Nat.lt_or_ge mid (mid + m - j) with g2 | g2
                        · rw [List.eq_nil_of_length_eq_zero (l := B2) (by omega), List.append_nil]; exact sA2
                        · rw [List.eq_nil_of_length_eq_zero (l := A2) (by omega), List.nil_append]; exact sB2
                      obtain ⟨z1, z2⟩ := hmrg C' (A2 ++ B2) hC'.1 hC'.2 (.refl _) hD'
                      rcases Nat.lt_or_ge mid (mid + m - j) with g2 | g2
                      · have hz1 : decide (((mid : Nat) : Int) < ((mid + m - j : Nat) : Int)) = true := by simp; omega
                        have hz2 : decide (((mid + m - j : Nat) : Int) < ((b : Nat) : Int)) = false := by simp; omega
                        simp +contextual only [go_sem, ↓reduceIte, Nat.reduceEqDiff, Nat.reduceAdd, Nat.reduceLeDiff, Nat.reduceLT, reduceCtorEq, k51, Bool.false_and, Bool.true_and, hd3, wen, hr1, hq1, hq2, hz1, hz2]
                        exact ⟨C' ++ (A2 ++ B2), ⟨z2, z1⟩, by simp⟩
                      · have hz1 : decide (((mid : Nat) : Int) < ((mid + m - j : Nat) : Int)) = false := by simp; omega
                        simp +contextual only [go_sem, ↓reduceIte, Nat.reduceEqDiff, Nat.reduceAdd, Nat.reduceLeDiff, Nat.reduceLT, reduceCtorEq, k51, Bool.false_and, Bool.true_and, hd3, wen, hr1, hq1, hq2, hz1]
                        exact ⟨C' ++ (A2 ++ B2), ⟨z2, z1⟩, by simp⟩
                  · have hq1 : decide (((a : Nat) : Int) < ((j : Nat) : Int)) = false := by simp; omega
                    have lC := hC'.1.length_eq
                    rw [List.length_append] at lC
                    by_cases hz : mid < mid + m - j ∧ mid + m - j < b
                    · have hz1 : decide (((mid : Nat) : Int) < ((mid + m - j : Nat) : Int)) = true := by simp; omega
                      have hz2 : decide (((mid + m - j : Nat) : Int) < ((b : Nat) : Int)) = true := by simp; omega
                      simp +contextual only [go_sem, ↓reduceIte, Nat.reduceEqDiff, Nat.reduceAdd, Nat.reduceLeDiff, Nat.reduceLT, reduceCtorEq, k51, Bool.false_and, Bool.true_and, hd3, wen, hr1, hq1, hz1, hz2, hsy]
                      refine ih (P := P ++ C') (A := A2) (B := B2) (R := R) (by omega) (by simp; omega) (by omega) (by omega) hN (by omega) (by omega) sA2 sB2 hAB2 (by simp [updH]) fun D' hD' => ?_
                      rw [updH_over]
                      simp +contextual only [go_sem, ↓reduceIte, Nat.reduceEqDiff, Nat.reduceAdd, Nat.reduceLeDiff, Nat.reduceLT, reduceCtorEq, k51]
                      obtain ⟨z1, z2⟩ := hmrg C' D' hC'.1 hC'.2 hD'.1 hD'.2
                      exact ⟨C' ++ D', ⟨z2, z1⟩, by simp⟩
                    · have hD' : Srt L (A2 ++ B2) := by
                        rcases Nat.lt_or_ge mid (mid + m - j) with g2 | g2
                        · rw [List.eq_nil_of_length_eq_zero (l := B2) (by omega), List.append_nil]; exact sA2
                        · rw [List.eq_nil_of_length_eq_zero (l := A2) (by omega), List.nil_append]; exact sB2
                      obtain ⟨z1, z2⟩ := hmrg C' (A2 ++ B2) hC'.1 hC'.2 (.refl _) hD'
                      rcases Nat.lt_or_ge mid (mid + m - j) with g2 | g2
                      · have hz1 : decide (((mid : Nat) : Int) < ((mid + m - j : Nat) : Int)) = true := by simp; omega
                        have hz2 : decide (((mid + m - j : Nat) : Int) < ((b : Nat) : Int)) = false := by simp; omega
                        simp +contextual only [go_sem, ↓reduceIte, Nat.reduceEqDiff, Nat.reduceAdd, Nat.reduceLeDiff, Nat.reduceLT, reduceCtorEq, k51, Bool.false_and, Bool.true_and, hd3, wen, hr1, hq1, hz1, hz2]
                        exact ⟨C' ++ (A2 ++ B2), ⟨z2, z1⟩, by simp⟩
                      · have hz1 : decide (((mid : Nat) : Int) < ((mid + m - j : Nat) : Int)) = false := by simp; omega
                        simp +contextual only [go_sem, ↓reduceIte, Nat.reduceEqDiff, Nat.reduceAdd, Nat.reduceLeDiff, Nat.reduceLT, reduceCtorEq, k51, Bool.false_and, Bool.true_and, hd3, wen, hr1, hq1, hz1]
                        exact ⟨C' ++ (A2 ++ B2), ⟨z2, z1⟩, by simp⟩
      · have hd2 : decide (((m : Nat) : Int) > ((mid : Nat) : Int)) = false := by simp; omega
        have hs : (mid < m ∧ a = mid + m - b ∧ m = mid) ∨ (m ≤ mid ∧ a = a ∧ m = m) := .inr ⟨hmd, rfl, rfl⟩
        simp +contextual only [go_sem, ↓reduceIte, Nat.reduceEqDiff, Nat.reduceAdd, Nat.reduceLeDiff, Nat.reduceLT, reduceCtorEq, c51, k51, w1, w2, hd0, hd1, wab, one_pos, not_false_eq_true, hmm, wmm, wn1, hd2]
        refine TriI.loopA hg k51 (fun q : Nat × Nat => ⟨slotsL [(0, .own id 0 N), (1, .sc (.int .i64 (a : Nat))), (2, .sc (.int .i64 (m : Nat))), (3, .sc (.int .i64 (b : Nat))), (4, .sc (.func (.func g) #[] #[])), (18, .sc (.int .i64 (mid : Nat))), (19, .sc (.int .i64 (mid + m : Nat))), (20, .sc (.int .i64 (q.1 : Nat))), (21, .sc (.int .i64 (q.2 : Nat))), (22, .sc (.int .i64 (mid + m - 1 : Nat)))], updH H id (.live 2 (row h (P ++ A ++ B ++ R)) true), n⟩)
          (fun q => (a) ≤ q.1 ∧ q.1 ≤ q.2 ∧ q.2 ≤ (m) ∧ Seek L A B a mid (a) (m) q.1 q.2) (fun q => q.2 - q.1) (a, m) (.slotsH rfl ?_) ⟨Nat.le_refl _, by dsimp only; omega, Nat.le_refl _, Seek.init L A B a mid (a) (m)⟩ ?_
        · simp +contextual only [go_sem, ↓reduceIte, Nat.reduceEqDiff, Nat.reduceAdd, Nat.reduceLeDiff, Nat.reduceLT, reduceCtorEq]
        · rintro ⟨i, j⟩ ⟨h1, h2, h3, hsk⟩
          dsimp only at h1 h2 h3 hsk ⊢
          rcases Nat.lt_or_ge i j with hij | hij
          · have hd3 : decide (((i : Nat) : Int) < ((j : Nat) : Int)) = true := by simp; omega
            have wij := wrapA (i := i) (j := j) (by omega)
            obtain ⟨p, hp1, hp2, hpp⟩ := half hij (by omega)
            have wpc := wrapS (i := mid + m - 1) (j := p) (by omega) (by omega)
            have b1 : ((p : Nat) : Int) < ((N : Nat) : Int) := by omega
            have b2 : ((mid + m - 1 - p : Nat) : Int) < ((N : Nat) : Int) := by omega
            obtain ⟨x, hx⟩ : ∃ x, A[p - a]? = some x := ⟨A[p - a]'(by omega), by simp⟩
            obtain ⟨y, hy⟩ : ∃ y, B[mid - 1 - p]? = some y := ⟨B[mid - 1 - p]'(by omega), by simp⟩
            have hyx := hAB x (List.mem_of_getElem? hx) y (List.mem_of_getElem? hy)
            have gx : (row h (P ++ A ++ B ++ R))[p]? = some (.agg (h x)) := row_get (by
              rw [List.append_assoc, List.getElem?_append_left (by simp; omega), List.getElem?_append_right (by omega)]
              rw [← hx]; congr 1; omega)
            have gy : (row h (P ++ A ++ B ++ R))[mid + m - 1 - p]? = some (.agg (h y)) := row_get (by
              rw [List.getElem?_append_left (by simp; omega), List.getElem?_append_right (by simp; omega)]
              rw [← hy]; congr 1; simp; omega)
            simp +contextual only [go_sem, ↓reduceIte, Nat.reduceEqDiff, Nat.reduceAdd, Nat.reduceLeDiff, Nat.reduceLT, reduceCtorEq, k51, hd3, hpp, wij, wpc, one_pos, not_false_eq_true, b1, b2, gy, gx, Nat.zero_add, e.len, e.take, List.drop_zero, Nat.le_refl, Int.natCast_nonneg, Int.toNat_natCast]
            refine ⟨rfl, (by simp [apartI, apartAll, clash, List.range, List.range.loop] <;> decide), hc y x _ _ _ ?_⟩
            by_cases hlt : c y x < 0
            · have hd : decide (c y x < (0 : Int)) = true := decide_eq_true hlt
              have hyL := (hL y x hyx).1 hlt
              simp +contextual only [go_sem, ↓reduceIte, Nat.reduceEqDiff, Nat.reduceAdd, Nat.reduceLeDiff, Nat.reduceLT, reduceCtorEq, k51, hd, Bool.not_true]
              refine ⟨(i, p), by dsimp only; omega, ⟨h1, by dsimp only; omega, by dsimp only; omega, ?_⟩, .slotsH rfl ?_⟩
              · exact hsk.down o sA sB (by omega) (by omega) hx hy hyL
              · simp +contextual only [go_sem, ↓reduceIte, Nat.reduceEqDiff, Nat.reduceAdd, Nat.reduceLeDiff, Nat.reduceLT, reduceCtorEq]
            · have hd : decide (c y x < (0 : Int)) = false := decide_eq_false hlt
              have wp := wrapP (i := p) (by omega)
              have hyL : ¬ L y x := fun g => hlt ((hL y x hyx).2 g)
              simp +contextual only [go_sem, ↓reduceIte, Nat.reduceEqDiff, Nat.reduceAdd, Nat.reduceLeDiff, Nat.reduceLT, reduceCtorEq, k51, hd, wp, Bool.not_false]
              refine ⟨(p + 1, j), by dsimp only; omega, ⟨by dsimp only; omega, by dsimp only; omega, h3, ?_⟩, .slotsH rfl ?_⟩
              · exact hsk.up o sA sB (by omega) (by omega) hx hy hyL
              · simp +contextual only [go_sem, ↓reduceIte, Nat.reduceEqDiff, Nat.reduceAdd, Nat.reduceLeDiff, Nat.reduceLT, reduceCtorEq]
          · obtain rfl : j = i := by omega
            have hd3 : decide (((j : Nat) : Int) < ((j : Nat) : Int)) = false := by simp
            have wen := wrapS (i := mid + m) (j := j) (by omega) (by omega)
            obtain ⟨c1, c2⟩ := hsk.cut o sA sB (fun x hx y hy => by have := hAB x hx y hy; omega) hA hB hmid hs h1 h3
            have hmrg := fun C D => merge_mid (L := L) (A := A) (B := B) (C := C) (D := D) (s := j - a) (t := mid - j) (by omega) (by omega) sA sB c1 c2
            have eA : A = A.take (j - a) ++ A.drop (j - a) := (List.take_append_drop _ _).symm
            have eB : B = B.take (mid - j) ++ B.drop (mid - j) := (List.take_append_drop _ _).symm
            have lA1 : (A.take (j - a)).length = j - a := by simp; omega
            have lA2 : (A.drop (j - a)).length = m - j := by simp; omega
            have lB1 : (B.take (mid - j)).length = mid - j := by simp; omega
            have lB2 : (B.drop (mid - j)).length = b - (mid + m - j) := by simp; omega
            have sA1 : Srt L (A.take (j - a)) := (by rw [eA] at sA; exact sA.left)
            have sA2 : Srt L (A.drop (j - a)) := (by rw [eA] at sA; exact sA.right)
            have sB1 : Srt L (B.take (mid - j)) := (by rw [eB] at sB; exact sB.left)
            have sB2 : Srt L (B.drop (mid - j)) := (by rw [eB] at sB; exact sB.right)
            have hAB1 : ∀ x, x ∈ A.take (j - a) → ∀ y, y ∈ B.take (mid - j) → x < y := fun x hx y hy => hAB x (List.mem_of_mem_take hx) y (List.mem_of_mem_take hy)
            have hAB2 : ∀ x, x ∈ A.drop (j - a) → ∀ y, y ∈ B.drop (mid - j) → x < y := fun x hx y hy => hAB x (List.mem_of_mem_drop hx) y (List.mem_of_mem_drop hy)
            have eAB : P ++ A ++ B ++ R = P ++ A.take (j - a) ++ A.drop (j - a) ++ B.take (mid - j) ++ (B.drop (mid - j) ++ R) := (fun A1 A2 B1 B2 (g1 : A = A1 ++ A2) (g2 : B = B1 ++ B2) => (by rw [g1, g2]; simp : P ++ A ++ B ++ R = P ++ A1 ++ A2 ++ B1 ++ (B2 ++ R))) _ _ _ _ eA eB
            rw [eAB]
            generalize A.take (j - a) = A1 at *
            generalize A.drop (j - a) = A2 at *
            generalize B.take (mid - j) = B1 at *
            generalize B.drop (mid - j) = B2 at *
            by_cases hr : j < m ∧ m < mid + m - j
            · have hr1 : decide (((j : Nat) : Int) < ((m : Nat) : Int)) = true := by simp; omega
              have hr2 : decide (((m : Nat) : Int) < ((mid + m - j : Nat) : Int)) = true := by simp; omega
              simp +contextual only [go_sem, ↓reduceIte, Nat.reduceEqDiff, Nat.reduceAdd, Nat.reduceLeDiff, Nat.reduceLT, reduceCtorEq, k51, Bool.false_and, Bool.true_and, hd3, wen, hr1, hr2, hro]
              refine ctRot hg hsw e (P := P ++ A1) (U := A2) (V' := B1) (R := B2 ++ R) (by simp; omega) (by omega) (by omega) (by simp; omega) hbig (by omega) (by omega) (by simp [updH]) ?_
              rw [updH_over]
              by_cases hq : a < j ∧ j < mid
              · have hq1 : decide (((a : Nat) : Int) < ((j : Nat) : Int)) = true := by simp; omega
                have hq2 : decide (((j : Nat) : Int) < ((mid : Nat) : Int)) = true := by simp; omega
                simp +contextual only [go_sem, ↓reduceIte, Nat.reduceEqDiff, Nat.reduceAdd, Nat.reduceLeDiff, Nat.reduceLT, reduceCtorEq, k51, Bool.false_and, Bool.true_and, hq1, hq2, hsy]
                refine ih (P := P) (A := A1) (B := B1) (R := A2 ++ (B2 ++ R)) (by omega) hP (by omega) (by omega) (by simp; omega) (by omega) (by omega) sA1 sB1 hAB1 (by simp [updH]) fun C' hC' => ?_
                rw [updH_over]
                have lC := hC'.1.length_eq
                rw [List.length_append] at lC
                by_cases hz : mid < mid + m - j ∧ mid + m - j < b
                · have hz1 : decide (((mid : Nat) : Int) < ((mid + m - j : Nat) : Int)) = true := by simp; omega
                  have hz2 : decide (((mid + m - j : Nat) : Int) < ((b : Nat) : Int)) = true := by simp; omega
                  simp +contextual only [go_sem, ↓reduceIte, Nat.reduceEqDiff, Nat.reduceAdd, Nat.reduceLeDiff, Nat.reduceLT, reduceCtorEq, k51, Bool.false_and, Bool.true_and, hz1, hz2, hsy]
                  refine ih (P := P ++ C') (A := A2) (B := B2) (R := R) (by omega) (by simp; omega) (by omega) (by omega) hN (by omega) (by omega) sA2 sB2 hAB2 (by simp [updH]) fun D' hD' => ?_
                  rw [updH_over]
                  simp +contextual only [go_sem, ↓reduceIte, Nat.reduceEqDiff, Nat.reduceAdd, Nat.reduceLeDiff, Nat.reduceLT, reduceCtorEq, k51]
                  obtain ⟨z1, z2⟩ := hmrg C' D' hC'.1 hC'.2 hD'.1 hD'.2
                  exact ⟨C' ++ D', ⟨z2, z1⟩, by simp⟩
                · have hD' : Srt L (A2 ++ B2) := by
                    rcases Nat.lt_or_ge mid (mid + m - j) with g2 | g2
                    · rw [List.eq_nil_of_length_eq_zero (l := B2) (by omega), List.append_nil]; exact sA2
                    · rw [List.eq_nil_of_length_eq_zero (l := A2) (by omega), List.nil_append]; exact sB2
                  obtain ⟨z1, z2⟩ := hmrg C' (A2 ++ B2) hC'.1 hC'.2 (.refl _) hD'
                  rcases Nat.lt_or_ge mid (mid + m - j) with g2 | g2
                  · have hz1 : decide (((mid : Nat) : Int) < ((mid + m - j : Nat) : Int)) = true := by simp; omega
                    have hz2 : decide (((mid + m - j : Nat) : Int) < ((b : Nat) : Int)) = false := by simp; omega
                    simp +contextual only [go_sem, ↓reduceIte, Nat.reduceEqDiff, Nat.reduceAdd, Nat.reduceLeDiff, Nat.reduceLT, reduceCtorEq, k51, Bool.false_and, Bool.true_and, hz1, hz2]
                    exact ⟨C' ++ (A2 ++ B2), ⟨z2, z1⟩, by simp⟩
                  · have hz1 : decide (((mid : Nat) : Int) < ((mid + m - j : Nat) : Int)) = false := by simp; omega
                    simp +contextual only [go_sem, ↓reduceIte, Nat.reduceEqDiff, Nat.reduceAdd, Nat.reduceLeDiff, Nat.reduceLT, reduceCtorEq, k51, Bool.false_and, Bool.true_and, hz1]
                    exact ⟨C' ++ (A2 ++ B2), ⟨z2, z1⟩, by simp⟩
              · obtain ⟨C', hCe, hC'⟩ : ∃ C', C' = A1 ++ B1 ∧ C'.Perm (A1 ++ B1) ∧ Srt L C' := by
                  refine ⟨_, rfl, .refl _, ?_⟩
                  rcases Nat.lt_or_ge a j with g' | g'
                  · rw [List.eq_nil_of_length_eq_zero (l := B1) (by omega), List.append_nil]; exact sA1
                  · rw [List.eq_nil_of_length_eq_zero (l := A1) (by omega), List.nil_append]; exact sB1
                rw [show P ++ A1 ++ B1 ++ A2 ++ (B2 ++ R) = P ++ C' ++ (A2 ++ (B2 ++ R)) by rw [hCe]; simp]
                rcases Nat.lt_or_ge a j with g' | g'
                · have hq1 : decide (((a : Nat) : Int) < ((j : Nat) : Int)) = true := by simp; omega
                  have hq2 : decide (((j : Nat) : Int) < ((mid : Nat) : Int)) = false := by simp; omega
                  have lC := hC'.1.length_eq
                  rw [List.length_append] at lC
                  by_cases hz : mid < mid + m - j ∧ mid + m - j < b
                  · have hz1 : decide (((mid : Nat) : Int) < ((mid + m - j : Nat) : Int)) = true := by simp; omega
                    have hz2 : decide (((mid + m - j : Nat) : Int) < ((b : Nat) : Int)) = true := by simp; omega
                    simp +contextual only [go_sem, ↓reduceIte, Nat.reduceEqDiff, Nat.reduceAdd, Nat.reduceLeDiff, Nat.reduceLT, reduceCtorEq, k51, Bool.false_and, Bool.true_and, hq1, hq2, hz1, hz2, hsy]
                    refine ih (P := P ++ C') (A := A2) (B := B2) (R := R) (by omega) (by simp; omega) (by omega) (by omega) hN (by omega) (by omega) sA2 sB2 hAB2 (by simp [updH]) fun D' hD' => ?_
                    rw [updH_over]
                    simp +contextual only [go_sem, ↓reduceIte, Nat.reduceEqDiff, Nat.reduceAdd, Nat.reduceLeDiff, Nat.reduceLT, reduceCtorEq, k51]
                    obtain ⟨z1, z2⟩ := hmrg C' D' hC'.1 hC'.2 hD'.1 hD'.2
                    exact ⟨C' ++ D', ⟨z2, z1⟩, by simp⟩
                  · have hD' : Srt L (A2 ++ B2) := by
                      rcases Nat.lt_or_ge mid (mid + m - j) with g2 | g2
                      · rw [List.eq_nil_of_length_eq_zero (l := B2) (by omega), List.append_nil]; exact sA2
                      · rw [List.eq_nil_of_length_eq_zero (l := A2) (by omega), List.nil_append]; exact sB2
                    obtain ⟨z1, z2⟩ := hmrg C' (A2 ++ B2) hC'.1 hC'.2 (.refl _) hD'
                    rcases Nat.lt_or_ge mid (mid + m - j) with g2 | g2
                    · have hz1 : decide (((mid : Nat) : Int) < ((mid + m - j : Nat) : Int)) = true := by simp; omega
                      have hz2 : decide (((mid + m - j : Nat) : Int) < ((b : Nat) : Int)) = false := by simp; omega
                      simp +contextual only [go_sem, ↓reduceIte, Nat.reduceEqDiff, Nat.reduceAdd, Nat.reduceLeDiff, Nat.reduceLT, reduceCtorEq, k51, Bool.false_and, Bool.true_and, hq1, hq2, hz1, hz2]
                      exact ⟨C' ++ (A2 ++ B2), ⟨z2, z1⟩, by simp⟩
                    · have hz1 : decide (((mid : Nat) : Int) < ((mid + m - j : Nat) : Int)) = false := by simp; omega
                      simp +contextual only [go_sem, ↓reduceIte, Nat.reduceEqDiff, Nat.reduceAdd, Nat.reduceLeDiff, Nat.reduceLT, reduceCtorEq, k51, Bool.false_and, Bool.true_and, hq1, hq2, hz1]
                      exact ⟨C' ++ (A2 ++ B2), ⟨z2, z1⟩, by simp⟩
                · have hq1 : decide (((a : Nat) : Int) < ((j : Nat) : Int)) = false := by simp; omega
                  have lC := hC'.1.length_eq
                  rw [List.length_append] at lC
                  by_cases hz : mid < mid + m - j ∧ mid + m - j < b
                  · have hz1 : decide (((mid : Nat) : Int) < ((mid + m - j : Nat) : Int)) = true := by simp; omega
                    have hz2 : decide (((mid + m - j : Nat) : Int) < ((b : Nat) : Int)) = true := by simp; omega
                    simp +contextual only [go_sem, ↓reduceIte, Nat.reduceEqDiff, Nat.reduceAdd, Nat.reduceLeDiff, Nat.reduceLT, reduceCtorEq, k51, Bool.false_and, Bool.true_and, hq1, hz1, hz2, hsy]
                    refine ih (P := P ++ C') (A := A2) (B := B2) (R := R) (by omega) (by simp; omega) (by omega) (by omega) hN (by omega) (by omega) sA2 sB2 hAB2 (by simp [updH]) fun D' hD' => ?_
                    rw [updH_over]
                    simp +contextual only [go_sem, ↓reduceIte, Nat.reduceEqDiff, Nat.reduceAdd, Nat.reduceLeDiff, Nat.reduceLT, reduceCtorEq, k51]
                    obtain ⟨z1, z2⟩ := hmrg C' D' hC'.1 hC'.2 hD'.1 hD'.2
                    exact ⟨C' ++ D', ⟨z2, z1⟩, by simp⟩
                  · have hD' : Srt L (A2 ++ B2) := by
                      rcases Nat.lt_or_ge mid (mid + m - j) with g2 | g2
                      · rw [List.eq_nil_of_length_eq_zero (l := B2) (by omega), List.append_nil]; exact sA2
                      · rw [List.eq_nil_of_length_eq_zero (l := A2) (by omega), List.nil_append]; exact sB2
                    obtain ⟨z1, z2⟩ := hmrg C' (A2 ++ B2) hC'.1 hC'.2 (.refl _) hD'
                    rcases Nat.lt_or_ge mid (mid + m - j) with g2 | g2
                    · have hz1 : decide (((mid : Nat) : Int) < ((mid + m - j : Nat) : Int)) = true := by simp; omega
                      have hz2 : decide (((mid + m - j : Nat) : Int) < ((b : Nat) : Int)) = false := by simp; omega
                      simp +contextual only [go_sem, ↓reduceIte, Nat.reduceEqDiff, Nat.reduceAdd, Nat.reduceLeDiff, Nat.reduceLT, reduceCtorEq, k51, Bool.false_and, Bool.true_and, hq1, hz1, hz2]
                      exact ⟨C' ++ (A2 ++ B2), ⟨z2, z1⟩, by simp⟩
                    · have hz1 : decide (((mid : Nat) : Int) < ((mid + m - j : Nat) : Int)) = false := by simp; omega
                      simp +contextual only [go_sem, ↓reduceIte, Nat.reduceEqDiff, Nat.reduceAdd, Nat.reduceLeDiff, Nat.reduceLT, reduceCtorEq, k51, Bool.false_and, Bool.true_and, hq1, hz1]
                      exact ⟨C' ++ (A2 ++ B2), ⟨z2, z1⟩, by simp⟩
            · have hemp : A2 = [] ∨ B1 = [] := by
                rcases Nat.lt_or_ge j m with g | g
                · exact .inr (List.eq_nil_of_length_eq_zero (by omega))
                · exact .inl (List.eq_nil_of_length_eq_zero (by omega))
              have esw : P ++ A1 ++ A2 ++ B1 ++ (B2 ++ R) = P ++ A1 ++ B1 ++ A2 ++ (B2 ++ R) := by rcases hemp with g | g <;> simp [g]
              rw [esw]
              rcases Nat.lt_or_ge j m with g | g
              · have hr1 : decide (((j : Nat) : Int) < ((m : Nat) : Int)) = true := by simp; omega
                have hr2 : decide (((m : Nat) : Int) < ((mid + m - j : Nat) : Int)) = false := by simp; omega
                by_cases hq : a < j ∧ j < mid
                · have hq1 : decide (((a : Nat) : Int) < ((j : Nat) : Int)) = true := by simp; omega
                  have hq2 : decide (((j : Nat) : Int) < ((mid : Nat) : Int)) = true := by simp; omega
                  simp +contextual only [go_sem, ↓reduceIte, Nat.reduceEqDiff, Nat.reduceAdd, Nat.reduceLeDiff, Nat.reduceLT, reduceCtorEq, k51, Bool.false_and, Bool.true_and, hd3, wen, hr1, hr2, hq1, hq2, hsy]
                  refine ih (P := P) (A := A1) (B := B1) (R := A2 ++ (B2 ++ R)) (by omega) hP (by omega) (by omega) (by simp; omega) (by omega) (by omega) sA1 sB1 hAB1 (by simp [updH]) fun C' hC' => ?_
                  rw [updH_over]
                  have lC := hC'.1.length_eq
                  rw [List.length_append] at lC
                  by_cases hz : mid < mid + m - j ∧ mid + m - j < b
                  · have hz1 : decide (((mid : Nat) : Int) < ((mid + m - j : Nat) : Int)) = true := by simp; omega
                    have hz2 : decide (((mid + m - j : Nat) : Int) < ((b : Nat) : Int)) = true := by simp; omega
                    simp +contextual only [go_sem, ↓reduceIte, Nat.reduceEqDiff, Nat.reduceAdd, Nat.reduceLeDiff, Nat.reduceLT, reduceCtorEq, k51, Bool.false_and, Bool.true_and, hz1, hz2, hsy]
                    refine ih (P := P ++ C') (A := A2) (B := B2) (R := R) (by omega) (by simp; omega) (by omega) (by omega) hN (by omega) (by omega) sA2 sB2 hAB2 (by simp [updH]) fun D' hD' => ?_
                    rw [updH_over]
                    simp +contextual only [go_sem, ↓reduceIte, Nat.reduceEqDiff, Nat.reduceAdd, Nat.reduceLeDiff, Nat.reduceLT, reduceCtorEq, k51]
                    obtain ⟨z1, z2⟩ := hmrg C' D' hC'.1 hC'.2 hD'.1 hD'.2
                    exact ⟨C' ++ D', ⟨z2, z1⟩, by simp⟩
                  · have hD' : Srt L (A2 ++ B2) := by
                      rcases Nat.lt_or_ge mid (mid + m - j) with g2 | g2
                      · rw [List.eq_nil_of_length_eq_zero (l := B2) (by omega), List.append_nil]; exact sA2
                      · rw [List.eq_nil_of_length_eq_zero (l := A2) (by omega), List.nil_append]; exact sB2
                    obtain ⟨z1, z2⟩ := hmrg C' (A2 ++ B2) hC'.1 hC'.2 (.refl _) hD'
                    rcases Nat.lt_or_ge mid (mid + m - j) with g2 | g2
                    · have hz1 : decide (((mid : Nat) : Int) < ((mid + m - j : Nat) : Int)) = true := by simp; omega
                      have hz2 : decide (((mid + m - j : Nat) : Int) < ((b : Nat) : Int)) = false := by simp; omega
                      simp +contextual only [go_sem, ↓reduceIte, Nat.reduceEqDiff, Nat.reduceAdd, Nat.reduceLeDiff, Nat.reduceLT, reduceCtorEq, k51, Bool.false_and, Bool.true_and, hz1, hz2]
                      exact ⟨C' ++ (A2 ++ B2), ⟨z2, z1⟩, by simp⟩
                    · have hz1 : decide (((mid : Nat) : Int) < ((mid + m - j : Nat) : Int)) = false := by simp; omega
                      simp +contextual only [go_sem, ↓reduceIte, Nat.reduceEqDiff, Nat.reduceAdd, Nat.reduceLeDiff, Nat.reduceLT, reduceCtorEq, k51, Bool.false_and, Bool.true_and, hz1]
                      exact ⟨C' ++ (A2 ++ B2), ⟨z2, z1⟩, by simp⟩
                · obtain ⟨C', hCe, hC'⟩ : ∃ C', C' = A1 ++ B1 ∧ C'.Perm (A1 ++ B1) ∧ Srt L C' := by
                    refine ⟨_, rfl, .refl _, ?_⟩
                    rcases Nat.lt_or_ge a j with g' | g'
                    · rw [List.eq_nil_of_length_eq_zero (l := B1) (by omega), List.append_nil]; exact sA1
                    · rw [List.eq_nil_of_length_eq_zero (l := A1) (by omega), List.nil_append]; exact sB1
                  rw [show P ++ A1 ++ B1 ++ A2 ++ (B2 ++ R) = P ++ C' ++ (A2 ++ (B2 ++ R)) by rw [hCe]; simp]
                  rcases Nat.lt_or_ge a j with g' | g'
                  · have hq1 : decide (((a : Nat) : Int) < ((j : Nat) : Int)) = true := by simp; omega
                    have hq2 : decide (((j : Nat) : Int) < ((mid : Nat) : Int)) = false := by simp; omega
                    have lC := hC'.1.length_eq
                    rw [List.length_append] at lC
                    by_cases hz : mid < mid + m - j ∧ mid + m - j < b
                    · have hz1 : decide (((mid : Nat) : Int) < ((mid + m - j : Nat) : Int)) = true := by simp; omega
                      have hz2 : decide (((mid + m - j : Nat) : Int) < ((b : Nat) : Int)) = true := by simp; omega
                      simp +contextual only [go_sem, ↓reduceIte, Nat.reduceEqDiff, Nat.reduceAdd, Nat.reduceLeDiff, Nat.reduceLT, reduceCtorEq, k51, Bool.false_and, Bool.true_and, hd3, wen, hr1, hr2, hq1, hq2, hz1, hz2, hsy]
                      refine ih (P := P ++ C') (A := A2) (B := B2) (R := R) (by omega) (by simp; omega) (by omega) (by omega) hN (by omega) (by omega) sA2 sB2 hAB2 (by simp [updH]) fun D' hD' => ?_
                      rw [updH_over]
                      simp +contextual only [go_sem, ↓reduceIte, Nat.reduceEqDiff, Nat.reduceAdd, Nat.reduceLeDiff, Nat.reduceLT, reduceCtorEq, k51]
                      obtain ⟨z1, z2⟩ := hmrg C' D' hC'.1 hC'.2 hD'.1 hD'.2
                      exact ⟨C' ++ D', ⟨z2, z1⟩, by simp⟩
                    · have hD' : Srt L (A2 ++ B2) := by
                        rcases Nat.lt_or_ge mid (mid + m - j) with g2 | g2
                        · rw [List.eq_nil_of_length_eq_zero (l := B2) (by omega), List.append_nil]; exact sA2
                        · rw [List.eq_nil_of_length_eq_zero (l := A2) (by omega), List.nil_append]; exact sB2
                      obtain ⟨z1, z2⟩ := hmrg C' (A2 ++ B2) hC'.1 hC'.2 (.refl _) hD'
                      rcases Nat.lt_or_ge mid (mid + m - j) with g2 | g2
                      · have hz1 : decide (((mid : Nat) : Int) < ((mid + m - j : Nat) : Int)) = true := by simp; omega
                        have hz2 : decide (((mid + m - j : Nat) : Int) < ((b : Nat) : Int)) = false := by simp; omega
                        simp +contextual only [go_sem, ↓reduceIte, Nat.reduceEqDiff, Nat.reduceAdd, Nat.reduceLeDiff, Nat.reduceLT, reduceCtorEq, k51, Bool.false_and, Bool.true_and, hd3, wen, hr1, hr2, hq1, hq2, hz1, hz2]
                        exact ⟨C' ++ (A2 ++ B2), ⟨z2, z1⟩, by simp⟩
                      · have hz1 : decide (((mid : Nat) : Int) < ((mid + m - j : Nat) : Int)) = false := by simp; omega
                        simp +contextual only [go_sem, ↓reduceIte, Nat.reduceEqDiff, Nat.reduceAdd, Nat.reduceLeDiff, Nat.reduceLT, reduceCtorEq, k51, Bool.false_and, Bool.true_and, hd3, wen, hr1, hr2, hq1, hq2, hz1]
                        exact ⟨C' ++ (A2 ++ B2), ⟨z2, z1⟩, by simp⟩
                  · have hq1 : decide (((a : Nat) : Int) < ((j : Nat) : Int)) = false := by simp; omega
                    have lC := hC'.1.length_eq
                    rw [List.length_append] at lC
                    by_cases hz : mid < mid + m - j ∧ mid + m - j < b
                    · have hz1 : decide (((mid : Nat) : Int) < ((mid + m - j : Nat) : Int)) = true := by simp; omega
                      have hz2 : decide (((mid + m - j : Nat) : Int) < ((b : Nat) : Int)) = true := by simp; omega
                      simp +contextual only [go_sem, ↓reduceIte, Nat.reduceEqDiff, Nat.reduceAdd, Nat.reduceLeDiff, Nat.reduceLT, reduceCtorEq, k51, Bool.false_and, Bool.true_and, hd3, wen, hr1, hr2, hq1, hz1, hz2, hsy]
                      refine ih (P := P ++ C') (A := A2) (B := B2) (R := R) (by omega) (by simp; omega) (by omega) (by omega) hN (by omega) (by omega) sA2 sB2 hAB2 (by simp [updH]) fun D' hD' => ?_
                      rw [updH_over]
                      simp +contextual only [go_sem, ↓reduceIte, Nat.reduceEqDiff, Nat.reduceAdd, Nat.reduceLeDiff, Nat.reduceLT, reduceCtorEq, k51]
                      obtain ⟨z1, z2⟩ := hmrg C' D' hC'.1 hC'.2 hD'.1 hD'.2
                      exact ⟨C' ++ D', ⟨z2, z1⟩, by simp⟩
                    · have hD' : Srt L (A2 ++ B2) := by
                        rcases Nat.lt_or_ge mid (mid + m - j) with g2 | g2
                        · rw [List.eq_nil_of_length_eq_zero (l := B2) (by omega), List.append_nil]; exact sA2
                        · rw [List.eq_nil_of_length_eq_zero (l := A2) (by omega), List.nil_append]; exact sB2
                      obtain ⟨z1, z2⟩ := hmrg C' (A2 ++ B2) hC'.1 hC'.2 (.refl _) hD'
                      rcases Nat.lt_or_ge mid (mid + m - j) with g2 | g2
                      · have hz1 : decide (((mid : Nat) : Int) < ((mid + m - j : Nat) : Int)) = true := by simp; omega
                        have hz2 : decide (((mid + m - j : Nat) : Int) < ((b : Nat) : Int)) = false := by simp; omega
                        simp +contextual only [go_sem, ↓reduceIte, Nat.reduceEqDiff, Nat.reduceAdd, Nat.reduceLeDiff, Nat.reduceLT, reduceCtorEq, k51, Bool.false_and, Bool.true_and, hd3, wen, hr1, hr2, hq1, hz1, hz2]
                        exact ⟨C' ++ (A2 ++ B2), ⟨z2, z1⟩, by simp⟩
                      · have hz1 : decide (((mid : Nat) : Int) < ((mid + m - j : Nat) : Int)) = false := by simp; omega
                        simp +contextual only [go_sem, ↓reduceIte, Nat.reduceEqDiff, Nat.reduceAdd, Nat.reduceLeDiff, Nat.reduceLT, reduceCtorEq, k51, Bool.false_and, Bool.true_and, hd3, wen, hr1, hr2, hq1, hz1]
                        exact ⟨C' ++ (A2 ++ B2), ⟨z2, z1⟩, by simp⟩
              · have hr1 : decide (((j : Nat) : Int) < ((m : Nat) : Int)) = false := by simp; omega
                by_cases hq : a < j ∧ j < mid
                · have hq1 : decide (((a : Nat) : Int) < ((j : Nat) : Int)) = true := by simp; omega
                  have hq2 : decide (((j : Nat) : Int) < ((mid : Nat) : Int)) = true := by simp; omega
                  simp +contextual only [go_sem, ↓reduceIte, Nat.reduceEqDiff, Nat.reduceAdd, Nat.reduceLeDiff, Nat.reduceLT, reduceCtorEq, k51, Bool.false_and, Bool.true_and, hd3, wen, hr1, hq1, hq2, hsy]
                  refine ih (P := P) (A := A1) (B := B1) (R := A2 ++ (B2 ++ R)) (by omega) hP (by omega) (by omega) (by simp; omega) (by omega) (by omega) sA1 sB1 hAB1 (by simp [updH]) fun C' hC' => ?_
                  rw [updH_over]
                  have lC := hC'.1.length_eq
                  rw [List.length_append] at lC
                  by_cases hz : mid < mid + m - j ∧ mid + m - j < b
                  · have hz1 : decide (((mid : Nat) : Int) < ((mid + m - j : Nat) : Int)) = true := by simp; omega
                    have hz2 : decide (((mid + m - j : Nat) : Int) < ((b : Nat) : Int)) = true := by simp; omega
                    simp +contextual only [go_sem, ↓reduceIte, Nat.reduceEqDiff, Nat.reduceAdd, Nat.reduceLeDiff, Nat.reduceLT, reduceCtorEq, k51, Bool.false_and, Bool.true_and, hz1, hz2, hsy]
                    refine ih (P := P ++ C') (A := A2) (B := B2) (R := R) (by omega) (by simp; omega) (by omega) (by omega) hN (by omega) (by omega) sA2 sB2 hAB2 (by simp [updH]) fun D' hD' => ?_
                    rw [updH_over]
                    simp +contextual only [go_sem, ↓reduceIte, Nat.reduceEqDiff, Nat.reduceAdd, Nat.reduceLeDiff, Nat.reduceLT, reduceCtorEq, k51]
                    obtain ⟨z1, z2⟩ := hmrg C' D' hC'.1 hC'.2 hD'.1 hD'.2
                    exact ⟨C' ++ D', ⟨z2, z1⟩, by simp⟩
                  · have hD' : Srt L (A2 ++ B2) := by
                      rcases Nat.lt_or_ge mid (mid + m - j) with g2 | g2
                      · rw [List.eq_nil_of_length_eq_zero (l := B2) (by omega), List.append_nil]; exact sA2
                      · rw [List.eq_nil_of_length_eq_zero (l := A2) (by omega), List.nil_append]; exact sB2
                    obtain ⟨z1, z2⟩ := hmrg C' (A2 ++ B2) hC'.1 hC'.2 (.refl _) hD'
                    rcases Nat.lt_or_ge mid (mid + m - j) with g2 | g2
                    · have hz1 : decide (((mid : Nat) : Int) < ((mid + m - j : Nat) : Int)) = true := by simp; omega
                      have hz2 : decide (((mid + m - j : Nat) : Int) < ((b : Nat) : Int)) = false := by simp; omega
                      simp +contextual only [go_sem, ↓reduceIte, Nat.reduceEqDiff, Nat.reduceAdd, Nat.reduceLeDiff, Nat.reduceLT, reduceCtorEq, k51, Bool.false_and, Bool.true_and, hz1, hz2]
                      exact ⟨C' ++ (A2 ++ B2), ⟨z2, z1⟩, by simp⟩
                    · have hz1 : decide (((mid : Nat) : Int) < ((mid + m - j : Nat) : Int)) = false := by simp; omega
                      simp +contextual only [go_sem, ↓reduceIte, Nat.reduceEqDiff, Nat.reduceAdd, Nat.reduceLeDiff, Nat.reduceLT, reduceCtorEq, k51, Bool.false_and, Bool.true_and, hz1]
                      exact ⟨C' ++ (A2 ++ B2), ⟨z2, z1⟩, by simp⟩
                · obtain ⟨C', hCe, hC'⟩ : ∃ C', C' = A1 ++ B1 ∧ C'.Perm (A1 ++ B1) ∧ Srt L C' := by
                    refine ⟨_, rfl, .refl _, ?_⟩
                    rcases Nat.lt_or_ge a j with g' | g'
                    · rw [List.eq_nil_of_length_eq_zero (l := B1) (by omega), List.append_nil]; exact sA1
                    · rw [List.eq_nil_of_length_eq_zero (l := A1) (by omega), List.nil_append]; exact sB1
                  rw [show P ++ A1 ++ B1 ++ A2 ++ (B2 ++ R) = P ++ C' ++ (A2 ++ (B2 ++ R)) by rw [hCe]; simp]
                  rcases Nat.lt_or_ge a j with g' | g'
                  · have hq1 : decide (((a : Nat) : Int) < ((j : Nat) : Int)) = true := by simp; omega
                    have hq2 : decide (((j : Nat) : Int) < ((mid : Nat) : Int)) = false := by simp; omega
                    have lC := hC'.1.length_eq
                    rw [List.length_append] at lC
                    by_cases hz : mid < mid + m - j ∧ mid + m - j < b
                    · have hz1 : decide (((mid : Nat) : Int) < ((mid + m - j : Nat) : Int)) = true := by simp; omega
                      have hz2 : decide (((mid + m - j : Nat) : Int) < ((b : Nat) : Int)) = true := by simp; omega
                      simp +contextual only [go_sem, ↓reduceIte, Nat.reduceEqDiff, Nat.reduceAdd, Nat.reduceLeDiff, Nat.reduceLT, reduceCtorEq, k51, Bool.false_and, Bool.true_and, hd3, wen, hr1, hq1, hq2, hz1, hz2, hsy]
                      refine ih (P := P ++ C') (A := A2) (B := B2) (R := R) (by omega) (by simp; omega) (by omega) (by omega) hN (by omega) (by omega) sA2 sB2 hAB2 (by simp [updH]) fun D' hD' => ?_
                      rw [updH_over]
                      simp +contextual only [go_sem, ↓reduceIte, Nat.reduceEqDiff, Nat.reduceAdd, Nat.reduceLeDiff, Nat.reduceLT, reduceCtorEq, k51]
                      obtain ⟨z1, z2⟩ := hmrg C' D' hC'.1 hC'.2 hD'.1 hD'.2
                      exact ⟨C' ++ D', ⟨z2, z1⟩, by simp⟩
                    · have hD' : Srt L (A2 ++ B2) := by
                        rcases Nat.lt_or_ge mid (mid + m - j) with g2 | g2
                        · rw [List.eq_nil_of_length_eq_zero (l := B2) (by omega), List.append_nil]; exact sA2
                        · rw [List.eq_nil_of_length_eq_zero (l := A2) (by omega), List.nil_append]; exact sB2
                      obtain ⟨z1, z2⟩ := hmrg C' (A2 ++ B2) hC'.1 hC'.2 (.refl _) hD'
                      rcases Nat.lt_or_ge mid (mid + m - j) with g2 | g2
                      · have hz1 : decide (((mid : Nat) : Int) < ((mid + m - j : Nat) : Int)) = true := by simp; omega
                        have hz2 : decide (((mid + m - j : Nat) : Int) < ((b : Nat) : Int)) = false := by simp; omega
                        simp +contextual only [go_sem, ↓reduceIte, Nat.reduceEqDiff, Nat.reduceAdd, Nat.reduceLeDiff, Nat.reduceLT, reduceCtorEq, k51, Bool.false_and, Bool.true_and, hd3, wen, hr1, hq1, hq2, hz1, hz2]
                        exact ⟨C' ++ (A2 ++ B2), ⟨z2, z1⟩, by simp⟩
                      · have hz1 : decide (((mid : Nat) : Int) < ((mid + m - j : Nat) : Int)) = false := by simp; omega
                        simp +contextual only [go_sem, ↓reduceIte, Nat.reduceEqDiff, Nat.reduceAdd, Nat.reduceLeDiff, Nat.reduceLT, reduceCtorEq, k51, Bool.false_and, Bool.true_and, hd3, wen, hr1, hq1, hq2, hz1]
                        exact ⟨C' ++ (A2 ++ B2), ⟨z2, z1⟩, by simp⟩
                  · have hq1 : decide (((a : Nat) : Int) < ((j : Nat) : Int)) = false := by simp; omega
                    have lC := hC'.1.length_eq
                    rw [List.length_append] at lC
                    by_cases hz : mid < mid + m - j ∧ mid + m - j < b
                    · have hz1 : decide (((mid : Nat) : Int) < ((mid + m - j : Nat) : Int)) = true := by simp; omega
                      have hz2 : decide (((mid + m - j : Nat) : Int) < ((b : Nat) : Int)) = true := by simp; omega
                      simp +contextual only [go_sem, ↓reduceIte, Nat.reduceEqDiff, Nat.reduceAdd, Nat.reduceLeDiff, Nat.reduceLT, reduceCtorEq, k51, Bool.false_and, Bool.true_and, hd3, wen, hr1, hq1, hz1, hz2, hsy]
                      refine ih (P := P ++ C') (A := A2) (B := B2) (R := R) (by omega) (by simp; omega) (by omega) (by omega) hN (by omega) (by omega) sA2 sB2 hAB2 (by simp [updH]) fun D' hD' => ?_
                      rw [updH_over]
                      simp +contextual only [go_sem, ↓reduceIte, Nat.reduceEqDiff, Nat.reduceAdd, Nat.reduceLeDiff, Nat.reduceLT, reduceCtorEq, k51]
                      obtain ⟨z1, z2⟩ := hmrg C' D' hC'.1 hC'.2 hD'.1 hD'.2
                      exact ⟨C' ++ D', ⟨z2, z1⟩, by simp⟩
                    · have hD' : Srt L (A2 ++ B2) := by
                        rcases Nat.lt_or_ge mid (mid + m - j) with g2 | g2
                        · rw [List.eq_nil_of_length_eq_zero (l := B2) (by omega), List.append_nil]; exact sA2
                        · rw [List.eq_nil_of_length_eq_zero (l := A2) (by omega), List.nil_append]; exact sB2
                      obtain ⟨z1, z2⟩ := hmrg C' (A2 ++ B2) hC'.1 hC'.2 (.refl _) hD'
                      rcases Nat.lt_or_ge mid (mid + m - j) with g2 | g2
                      · have hz1 : decide (((mid : Nat) : Int) < ((mid + m - j : Nat) : Int)) = true := by simp; omega
                        have hz2 : decide (((mid + m - j : Nat) : Int) < ((b : Nat) : Int)) = false := by simp; omega
                        simp +contextual only [go_sem, ↓reduceIte, Nat.reduceEqDiff, Nat.reduceAdd, Nat.reduceLeDiff, Nat.reduceLT, reduceCtorEq, k51, Bool.false_and, Bool.true_and, hd3, wen, hr1, hq1, hz1, hz2]
                        exact ⟨C' ++ (A2 ++ B2), ⟨z2, z1⟩, by simp⟩
                      · have hz1 : decide (((mid : Nat) : Int) < ((mid + m - j : Nat) : Int)) = false := by simp; omega
                        simp +contextual only [go_sem, ↓reduceIte, Nat.reduceEqDiff, Nat.reduceAdd, Nat.reduceLeDiff, Nat.reduceLT, reduceCtorEq, k51, Bool.false_and, Bool.true_and, hd3, wen, hr1, hq1, hz1]
                        exact ⟨C' ++ (A2 ++ B2), ⟨z2, z1⟩, by simp⟩
end Go.Proofs.YtfmeplnoikfndaaDoor
