/- A stable sort in place: insertion. -/
import Derived.Test.YtfmeplnoikfndaaDoorCodes
import Derived.Test.YtfmeplnoikfndaaDoorStabP
namespace Go.Proofs.YtfmeplnoikfndaaDoor
set_option linter.all false
open Go.Idl Go.Idl.Stab
set_option maxHeartbeats 8000000
set_option maxRecDepth 100000
structure Els (k : Nat) (h : Nat → List V) : Prop where
  len : ∀ x, (h x).length = k
  ok : ∀ x, (h x).all V.cellOk = true
  fr : ∀ x, (h x).all V.isFc = true
theorem Els.take {k : Nat} {h : Nat → List V} (e : Els k h) (x : Nat) : (h x).take k = h x := List.take_of_length_le (by rw [e.len]; exact Nat.le_refl _)
theorem Els.wr {k : Nat} {h : Nat → List V} (e : Els k h) (x y : Nat) : V.write (.agg (h x)) 0 (.agg (h y)) = .agg (h y) := by
  rw [V.write]
  simp only [V.cells, e.len, if_true]
theorem Els.solid {k : Nat} {h : Nat → List V} (e : Els k h) (x : Nat) : V.solid (.agg (h x)) = true := e.ok x
def CmpT (P : Program) (g : FuncId) (h : Nat → List V) (c : Nat → Nat → Int) : Prop := ∀ (x y : Nat) (C : Ctx) (s : SF) (K : V → SF → Prop), K (.sc (.int .i64 (c x y))) s → CallT P C g [.agg (h x), .agg (h y)] s K
abbrev row (h : Nat → List V) (l : List Nat) : List V := l.map fun x => .agg (h x)
theorem row_get {h : Nat → List V} {l : List Nat} {i x : Nat} (hx : l[i]? = some x) : (row h l)[i]? = some (.agg (h x)) := by simp [row, hx]
theorem row_set (h : Nat → List V) (l : List Nat) (i x : Nat) : (row h l).set i (.agg (h x)) = row h (l.set i x) := by simp [row, List.map_set]
theorem CallT.heap {P : Program} {C : Ctx} {f : FuncId} {vs : List V} {s : SF} {K : V → SF → Prop} {H' : Heap} (hk : K (.tup []) ⟨s.τ, H', s.n⟩) (h : CallT P C f vs s fun v s' => v = .tup [] ∧ s'.H = H') : CallT P C f vs s K := by
  refine ⟨h.1, fun tm w γ I args h1 h2 h3 => (h.2 tm w γ I args h1 h2 h3).mono ?_⟩
  rintro e w' ⟨u, v, s', e1, ⟨rfl, rfl⟩, γ', I', hS, hr⟩
  exact ⟨u, .tup [], ⟨s.τ, s'.H, s.n⟩, e1, hk, γ', I', hS, hr⟩
theorem wrapP {i : Nat} (h : i < 4611686018427387904) : IntKind.i64.wrap ((i : Int) + 1) = ((i + 1 : Nat) : Int) := by rw [IntKind.wrap_i64]; omega
theorem ctIns {Φ : Specs} (hg : Idl.Good Tryd.prog Φ) {g : FuncId} {h : Nat → List V} {c : Nat → Nat → Int} (e : Els 2 h) (hc : CmpT Tryd.prog g h c) {L : Nat → Nat → Prop} (o : Ord L) (hL : ∀ x y, y < x → (c x y < 0 ↔ L x y))
    {C : Ctx} {τ : Nat → V} {H : Heap} {n id N a b : Nat} {P S R : List Nat} (hP : P.length = a) (hS : a + S.length = b) (hN : b + R.length = N) (hbig : N < 4611686018427387904) (hinc : S.Pairwise (· < ·))
    (hH : H id = .live 2 (row h (P ++ S ++ R)) true) {Q : V → SF → Prop} (hk : ∀ T, T.Perm S → Srt L T → Q (.tup []) ⟨τ, updH H id (.live 2 (row h (P ++ T ++ R)) true), n⟩) :
    CallT Tryd.prog C 50 [.own id 0 N, .sc (.int .i64 (a : Nat)), .sc (.int .i64 (b : Nat)), .sc (.func (.func g) #[] #[])] ⟨τ, H, n⟩ Q := by
  suffices hsuf : CallT Tryd.prog C 50 [.own id 0 N, .sc (.int .i64 (a : Nat)), .sc (.int .i64 (b : Nat)), .sc (.func (.func g) #[] #[])] ⟨τ, H, n⟩ fun v s' => v = .tup [] ∧ ∃ T, T.Perm S ∧ Srt L T ∧ s'.H = updH H id (.live 2 (row h (P ++ T ++ R)) true) by
    refine ⟨hsuf.1, fun tm w γ I args h1 h2 h3 => (hsuf.2 tm w γ I args h1 h2 h3).mono ?_⟩
    rintro e w' ⟨u, v, s', e1, ⟨rfl, T, t1, t2, t3⟩, γ', I', hS, hr⟩
    refine ⟨u, .tup [], ⟨τ, s'.H, n⟩, e1, ?_, γ', I', hS, hr⟩
    rw [t3]
    exact hk T t1 t2
  refine CallT.of_walk hg k50 ic50 (by simp) fun C1 hlow1 => ?_
  have hwa := wrapP (i := a) (by omega)
  simp +contextual only [go_sem, ↓reduceIte, Nat.reduceEqDiff, Nat.reduceAdd, Nat.reduceLeDiff, Nat.reduceLT, reduceCtorEq, c50, k50, hwa]
  refine TriI.loopA hg k50 (fun q : List Nat × List Nat × Nat => ⟨slotsL [(0, .own id 0 N), (1, .sc (.int .i64 (a : Nat))), (2, .sc (.int .i64 (b : Nat))), (3, .sc (.func (.func g) #[] #[])), (8, .sc (.int .i64 (q.2.2 : Nat)))],
      updH H id (.live 2 (row h (P ++ q.1 ++ (q.2.1 ++ R))) true), n⟩)
    (fun q => (∃ S0, S = S0 ++ q.2.1 ∧ q.1.Perm S0) ∧ Srt L q.1 ∧ (q.2.1 ≠ [] → q.2.2 = a + q.1.length ∧ 0 < q.1.length) ∧ (q.2.1 = [] → b ≤ q.2.2 ∧ q.2.2 ≤ b + 1)) (fun q => q.2.1.length)
    (S.take 1, S.drop 1, a + 1) (.slotsH ?_ ?_) ?_ ?_
  · have e1 : P ++ S.take 1 ++ (S.drop 1 ++ R) = P ++ S ++ R := by rw [List.append_assoc, ← List.append_assoc (S.take 1), List.take_append_drop, List.append_assoc]
    dsimp only
    rw [e1]
    exact (set_same H id _ hH).symm
  · simp +contextual only [go_sem, ↓reduceIte, Nat.reduceEqDiff, Nat.reduceAdd, Nat.reduceLeDiff, Nat.reduceLT, reduceCtorEq]
  · cases S with
    | nil =>
      simp at hS
      exact ⟨⟨[], rfl, .refl _⟩, .nil, fun h => absurd rfl h, fun _ => ⟨by dsimp only; omega, by dsimp only; omega⟩⟩
    | cons x U =>
      simp at hS
      refine ⟨⟨[x], rfl, .refl _⟩, by simp [Srt], fun _ => ⟨rfl, by simp⟩, fun h => ?_⟩
      have h' : U = [] := h
      subst h'
      simp at hS
      exact ⟨by dsimp only; omega, by dsimp only; omega⟩
  · rintro ⟨T, U, i⟩ ⟨⟨S0, hS0, hp⟩, hsrt, h1, h2⟩
    dsimp only at hS0 hp hsrt h1 h2 ⊢
    have hlenT := hp.length_eq
    cases U with
    | nil =>
      obtain ⟨h2a, h2b⟩ := h2 rfl
      rw [List.append_nil] at hS0
      subst hS0
      have hni : decide (((i : Nat) : Int) < ((b : Nat) : Int)) = false := by simp; omega
      simp +contextual only [go_sem, ↓reduceIte, Nat.reduceEqDiff, Nat.reduceAdd, Nat.reduceLeDiff, Nat.reduceLT, reduceCtorEq, k50, hni]
      exact ⟨T, hp, hsrt, rfl⟩
    | cons x U =>
      obtain ⟨hi, hpos⟩ := h1 (by simp)
      subst hi
      have hSl : a + T.length + U.length + 1 = b := by rw [hS0] at hS; simp at hS; omega
      have hli : decide (((a + T.length : Nat) : Int) < ((b : Nat) : Int)) = true := by simp; omega
      have hxT : ∀ y, y ∈ T → y < x := fun y hy => by
        rw [hS0, List.pairwise_append] at hinc
        exact hinc.2.2 y (hp.mem_iff.1 hy) x (by simp)
      have hwi := wrapP (i := a + T.length) (by omega)
      simp +contextual only [go_sem, ↓reduceIte, Nat.reduceEqDiff, Nat.reduceAdd, Nat.reduceLeDiff, Nat.reduceLT, reduceCtorEq, k50, hli]
      refine TriI.loopA hg k50 (fun q : List Nat × List Nat => ⟨slotsL [(0, .own id 0 N), (1, .sc (.int .i64 (a : Nat))), (2, .sc (.int .i64 (b : Nat))), (3, .sc (.func (.func g) #[] #[])), (8, .sc (.int .i64 (a + T.length : Nat))), (9, .sc (.int .i64 (a + q.1.length : Nat)))],
          updH H id (.live 2 (row h (P ++ q.1 ++ x :: (q.2 ++ (U ++ R)))) true), n⟩)
        (fun q => T = q.1 ++ q.2 ∧ ∀ s, s ∈ q.2 → L x s) (fun q => q.1.length) (T, []) (.slotsH ?_ ?_) ?_ ?_
      · rfl
      · simp +contextual only [go_sem, ↓reduceIte, Nat.reduceEqDiff, Nat.reduceAdd, Nat.reduceLeDiff, Nat.reduceLT, reduceCtorEq]
      · exact ⟨by simp, by simp⟩
      · rintro ⟨S1, S2⟩ ⟨hT, hx2⟩
        dsimp only at hT hx2 ⊢
        have hfin : (∀ s, s ∈ S1 → L s x) → (∃ S0', S = S0' ++ U ∧ (S1 ++ x :: S2).Perm S0') ∧ Srt L (S1 ++ x :: S2) ∧ (U ≠ [] → a + T.length + 1 = a + (S1 ++ x :: S2).length ∧ 0 < (S1 ++ x :: S2).length) ∧ (U = [] → b ≤ a + T.length + 1 ∧ a + T.length + 1 ≤ b + 1) := fun hs => by
          refine ⟨⟨S0 ++ [x], by rw [hS0]; simp, ?_⟩, Srt.ins (by rw [← hT]; exact hsrt) hs hx2, fun _ => ⟨by rw [hT]; simp; omega, by simp; omega⟩, fun hu => ?_⟩
          · refine (List.perm_middle).trans ?_
            rw [← hT]
            exact ((hp.cons x)).trans (List.perm_append_comm (l₁ := [x]) (l₂ := S0))
          · subst hu; simp at hSl; omega
        rcases List.eq_nil_or_concat S1 with h0 | ⟨S', y, h0⟩
        · subst h0
          have hng : decide (((a : Nat) : Int) > ((a : Nat) : Int)) = false := by simp
          simp +contextual only [go_sem, ↓reduceIte, Nat.reduceEqDiff, Nat.reduceAdd, Nat.reduceLeDiff, Nat.reduceLT, reduceCtorEq, k50, List.length_nil, Nat.add_zero, hng, hwi]
          refine ⟨rfl, (x :: S2, U, a + T.length + 1), by simp, hfin (fun s hs => absurd hs (by simp)), .slotsH (by simp) ?_⟩
          simp +contextual only [go_sem, ↓reduceIte, Nat.reduceEqDiff, Nat.reduceAdd, Nat.reduceLeDiff, Nat.reduceLT, reduceCtorEq]
        · rw [List.concat_eq_append] at h0
          subst h0
          have hgt : decide (((a + (S'.length + 1) : Nat) : Int) > ((a : Nat) : Int)) = true := by simp; omega
          have hTl : T.length = S'.length + 1 + S2.length := by rw [hT]; simp; omega
          have hyx := hxT y (by rw [hT]; simp)
          have hjN : ((a + (S'.length + 1) : Nat) : Int) < ((N : Nat) : Int) := by omega
          have hjN' : ((a + S'.length : Nat) : Int) < ((N : Nat) : Int) := by omega
          have hwm : IntKind.i64.wrap (((a + (S'.length + 1) : Nat) : Int) - 1) = ((a + S'.length : Nat) : Int) := by rw [IntKind.wrap_i64]; omega
          have el : P ++ (S' ++ [y]) ++ x :: (S2 ++ (U ++ R)) = P ++ S' ++ y :: x :: (S2 ++ (U ++ R)) := by simp
          have hPl : (P ++ S').length = a + S'.length := by simp; omega
          have gx : (row h (P ++ S' ++ y :: x :: (S2 ++ (U ++ R))))[a + (S'.length + 1)]? = some (.agg (h x)) := row_get (get_snd (M := []) y x hPl (by simp; omega))
          have gy : (row h (P ++ S' ++ y :: x :: (S2 ++ (U ++ R))))[a + S'.length]? = some (.agg (h y)) := row_get (get_mid' hPl y _)
          have gy' : ((row h (P ++ S' ++ y :: x :: (S2 ++ (U ++ R)))).set (a + (S'.length + 1)) (.agg (h y)))[a + S'.length]? = some (.agg (h y)) := by
            rw [List.getElem?_set_ne (by omega)]; exact gy
          have hsw : ((row h (P ++ S' ++ y :: x :: (S2 ++ (U ++ R)))).set (a + (S'.length + 1)) (.agg (h y))).set (a + S'.length) (.agg (h x)) = row h (P ++ S' ++ x :: ((y :: S2) ++ (U ++ R))) := by
            rw [row_set, row_set]
            refine congrArg (row h) ((swap_two' (M := []) y x hPl (by simp; omega)).trans (by simp))
          rw [el]
          simp +contextual only [go_sem, ↓reduceIte, Nat.reduceEqDiff, Nat.reduceAdd, Nat.reduceLeDiff, Nat.reduceLT, reduceCtorEq, k50, List.length_append, List.length_cons, List.length_nil, Nat.zero_add, hgt, hjN, hjN', hwm, gx, gy, e.len, e.take, List.drop_zero, Nat.le_refl, Int.natCast_nonneg, Int.toNat_natCast]
          refine ⟨rfl, (by simp [apartI, apartAll, clash, List.range, List.range.loop] <;> decide), hc x y _ _ _ ?_⟩
          by_cases hlt : c x y < 0
          · have hd : decide (c x y < (0 : Int)) = true := decide_eq_true hlt
            simp +contextual only [go_sem, ↓reduceIte, Nat.reduceEqDiff, Nat.reduceAdd, Nat.reduceLeDiff, Nat.reduceLT, reduceCtorEq, k50, hd, Nat.zero_add, hjN, hjN', hwm, gx, gy, gy', hsw, updH_over, e.len, e.take, e.wr, e.ok, e.solid, List.drop_zero, Nat.le_refl, Int.natCast_nonneg, Int.toNat_natCast]
            refine ⟨(by simp [apartI, apartAll, clash, List.range, List.range.loop] <;> decide), (S', y :: S2), by simp, ⟨by rw [hT]; simp, fun s hs => ?_⟩, .slotsH rfl ?_⟩
            · rcases List.mem_cons.1 hs with rfl | hs
              · exact (hL x s hyx).1 hlt
              · exact hx2 s hs
            · simp +contextual only [go_sem, ↓reduceIte, Nat.reduceEqDiff, Nat.reduceAdd, Nat.reduceLeDiff, Nat.reduceLT, reduceCtorEq]
          · have hd : decide (c x y < (0 : Int)) = false := decide_eq_false hlt
            simp +contextual only [go_sem, ↓reduceIte, Nat.reduceEqDiff, Nat.reduceAdd, Nat.reduceLeDiff, Nat.reduceLT, reduceCtorEq, k50, hd, hwi]
            have hyL : L y x := (o.total (x := y) (y := x) (by omega)).resolve_right fun g => hlt ((hL x y hyx).2 g)
            refine ⟨((S' ++ [y]) ++ x :: S2, U, a + T.length + 1), by simp, hfin fun s hs => ?_, .slotsH (by simp) ?_⟩
            · have hs1 : Srt L (S' ++ [y]) := (by rw [hT] at hsrt; exact hsrt.left)
              exact hs1.last o hyL s hs
            · simp +contextual only [go_sem, ↓reduceIte, Nat.reduceEqDiff, Nat.reduceAdd, Nat.reduceLeDiff, Nat.reduceLT, reduceCtorEq]
end Go.Proofs.YtfmeplnoikfndaaDoor
