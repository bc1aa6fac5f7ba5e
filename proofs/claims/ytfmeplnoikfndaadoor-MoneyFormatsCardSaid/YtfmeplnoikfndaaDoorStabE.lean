/- A stable sort in place: blocks, then rounds of merges. -/
import Derived.Test.YtfmeplnoikfndaaDoorStabD
namespace Go.Proofs.YtfmeplnoikfndaaDoor
set_option linter.all false
open Go.Idl Go.Idl.Stab
set_option maxHeartbeats 8000000
set_option maxRecDepth 100000
theorem seg_take (l : List Nat) (a b : Nat) (h1 : a ≤ b) (h2 : b ≤ l.length) : (l.take a).length = a ∧ a + (Stab.seg l a b).length = b ∧ b + (l.drop b).length = l.length := by
  have := Stab.seg_len (l := l) (lo := a) (hi := b) h2
  simp only [List.length_take, List.length_drop]
  omega
theorem seg_new {l T : List Nat} {a b : Nat} (h1 : a ≤ b) (h2 : b ≤ l.length) (hT : T.Perm (Stab.seg l a b)) : (l.take a ++ T ++ l.drop b).length = l.length ∧ Stab.Same l (l.take a ++ T ++ l.drop b) a b ∧ Stab.seg (l.take a ++ T ++ l.drop b) a b = T := by
  obtain ⟨e1, e2, e3⟩ := seg_take l a b h1 h2
  have hl := hT.length_eq
  have hs : Stab.Same l (l.take a ++ T ++ l.drop b) a b := by
    have := Stab.Same.mk' (P := l.take a) (S := Stab.seg l a b) (S' := T) (R := l.drop b) e1 e2 hl
    rwa [← Stab.seg_parts l h1] at this
  exact ⟨hs.len, hs, Stab.seg_mid e1 (by omega)⟩
theorem ctStb {Φ : Specs} (hg : Idl.Good Tryd.prog Φ) (hin : Φ 50 = none) (hsw : Φ 71 = none) (hro : Φ 61 = none) (hsy : Φ 51 = none) {g : FuncId} {h : Nat → List V} {c : Nat → Nat → Int} (e : Els 2 h) (hc : CmpT Tryd.prog g h c) {L : Nat → Nat → Prop} (o : Stab.Ord L) (hL : ∀ x y, y < x → (c x y < 0 ↔ L x y))
    {C : Ctx} {τ : Nat → V} {H : Heap} {n id N : Nat} (hbig : N < 1152921504606846976) (hH : H id = .live 2 (row h (List.range N)) true) {Q : V → SF → Prop} (hk : ∀ T, T.Perm (List.range N) ∧ Srt L T → Q (.tup []) ⟨τ, updH H id (.live 2 (row h T) true), n⟩) :
    CallT Tryd.prog C 45 [.own id 0 N, .sc (.int .i64 (N : Nat)), .sc (.func (.func g) #[] #[])] ⟨τ, H, n⟩ Q := by
  refine CallT.heapE hk ?_
  refine CallT.of_walk hg k45 ic45 (by simp) fun C1 hlow1 => ?_
  simp +contextual only [go_sem, ↓reduceIte, Nat.reduceEqDiff, Nat.reduceAdd, Nat.reduceLeDiff, Nat.reduceLT, reduceCtorEq, c45, k45]
  refine TriI.loopA hg k45 (fun q : List Nat × Nat => ⟨slotsL [(0, .own id 0 N), (1, .sc (.int .i64 (N : Nat))), (2, .sc (.func (.func g) #[] #[])), (6, .sc (.int .i64 20)), (7, .sc (.int .i64 (q.2 * 20 : Nat))), (8, .sc (.int .i64 (q.2 * 20 + 20 : Nat)))], updH H id (.live 2 (row h q.1) true), n⟩)
    (fun q => q.1.length = N ∧ Stab.Blk L q.1 N 20 q.2) (fun q => N - q.2 * 20) (List.range N, 0) (.slotsH ?_ ?_) ⟨by simp, Stab.Blk.init L N 20⟩ ?_
  · exact (set_same H id _ hH).symm
  · simp +contextual only [go_sem, ↓reduceIte, Nat.reduceEqDiff, Nat.reduceAdd, Nat.reduceLeDiff, Nat.reduceLT, reduceCtorEq]
    exact ⟨rfl, rfl⟩
  · rintro ⟨l, q⟩ ⟨hl, hb⟩
    dsimp only at hl hb ⊢
    have hle := hb.le
    rcases Nat.lt_or_ge N (q * 20 + 20) with hlt | hge
    · have hd : decide (((q * 20 + 20 : Nat) : Int) ≤ ((N : Nat) : Int)) = false := by simp; omega
      simp +contextual only [go_sem, ↓reduceIte, Nat.reduceEqDiff, Nat.reduceAdd, Nat.reduceLeDiff, Nat.reduceLT, reduceCtorEq, k45, hd, hin]
      obtain ⟨f1, f2, f3⟩ := seg_take l (q * 20) N (by omega) (by omega)
      have hseg := hb.seg (Nat.le_refl N)
      refine ctIns hg e hc o hL (P := l.take (q * 20)) (S := Stab.seg l (q * 20) N) (R := l.drop N) f1 f2 (by omega) (by omega) (by rw [hseg]; exact List.pairwise_lt_range') (by rw [← Stab.seg_parts l (by omega)]; simp [updH]) fun T hT sT => ?_
      obtain ⟨n1, n2, n3⟩ := seg_new (by omega) (by omega) hT
      have hruns : Stab.Runs L (l.take (q * 20) ++ T ++ l.drop N) N 20 := hb.fin (by omega) hlt n2 ⟨by rw [n3]; rw [hseg] at hT; exact hT, by rw [n3]; exact sT⟩
      generalize l.take (q * 20) ++ T ++ l.drop N = l0 at *
      rw [updH_over]
      have hl0 : l0.length = N := by omega
      clear hb hl n1 n2 n3 f1 f2 f3 hseg hT sT
      refine TriI.loopA hg k45 (fun q : List Nat × Nat => ⟨slotsL [(0, .own id 0 N), (1, .sc (.int .i64 (N : Nat))), (2, .sc (.func (.func g) #[] #[])), (6, .sc (.int .i64 (q.2 : Nat)))], updH H id (.live 2 (row h q.1) true), n⟩)
        (fun q => q.1.length = N ∧ Stab.Runs L q.1 N q.2 ∧ 0 < q.2 ∧ q.2 ≤ 2 * N + 20) (fun q => N - q.2) (l0, 20) (.slotsH rfl ?_) ⟨hl0, hruns, by dsimp only; omega, by dsimp only; omega⟩ ?_
      · simp +contextual only [go_sem, ↓reduceIte, Nat.reduceEqDiff, Nat.reduceAdd, Nat.reduceLeDiff, Nat.reduceLT, reduceCtorEq]
        rfl
      · clear hruns hl0
        rintro ⟨l, s⟩ ⟨hl, hr, hs0, hs2⟩
        dsimp only at hl hr hs0 hs2 ⊢
        rcases Nat.lt_or_ge s N with hsN | hsN
        · have hd1 : decide (((s : Nat) : Int) < ((N : Nat) : Int)) = true := by simp; omega
          have w2 : IntKind.i64.wrap (2 * ((s : Nat) : Int)) = ((2 * s : Nat) : Int) := by rw [IntKind.wrap_i64]; omega
          have w3 : IntKind.i64.wrap (((s : Nat) : Int) * 2) = ((2 * s : Nat) : Int) := by rw [IntKind.wrap_i64]; omega
          simp +contextual only [go_sem, ↓reduceIte, Nat.reduceEqDiff, Nat.reduceAdd, Nat.reduceLeDiff, Nat.reduceLT, reduceCtorEq, k45, hd1, w2]
          refine TriI.loopA hg k45 (fun q : List Nat × Nat => ⟨slotsL [(0, .own id 0 N), (1, .sc (.int .i64 (N : Nat))), (2, .sc (.func (.func g) #[] #[])), (6, .sc (.int .i64 (s : Nat))), (7, .sc (.int .i64 (q.2 * (2 * s) : Nat))), (8, .sc (.int .i64 (q.2 * (2 * s) + 2 * s : Nat)))], updH H id (.live 2 (row h q.1) true), n⟩)
            (fun q => q.1.length = N ∧ Stab.Mix L q.1 N s q.2) (fun q => N - q.2 * (2 * s)) (l, 0) (.slotsH rfl ?_) ⟨hl, Stab.Mix.init hr⟩ ?_
          · simp +contextual only [go_sem, ↓reduceIte, Nat.reduceEqDiff, Nat.reduceAdd, Nat.reduceLeDiff, Nat.reduceLT, reduceCtorEq, Nat.zero_mul, Nat.zero_add]
            rfl
          · clear hr hl
            rintro ⟨l, q⟩ ⟨hl, hm⟩
            dsimp only at hl hm ⊢
            have hle := hm.le
            obtain ⟨a, ha⟩ : ∃ a, a = q * (2 * s) := ⟨_, rfl⟩
            have hnext : (q + 1) * (2 * s) = a + 2 * s := by rw [Nat.add_mul, Nat.one_mul, ha]
            have hruns := fun b => hm.runs (b := b) hs0
            have hstep := fun l' => hm.step (l' := l') hs0
            have hdone := fun l' => hm.done (l' := l') hs0
            have hrest := hm.rest
            rw [← ha] at hle hruns hstep hdone hrest ⊢
            have w4 := wrapA (i := a) (j := s) (by omega)
            have w5 := wrapA (i := a + 2 * s) (j := 2 * s) (by omega)
            rcases Nat.lt_or_ge N (a + 2 * s) with hlt2 | hge2
            · have hd2 : decide (((a + 2 * s : Nat) : Int) ≤ ((N : Nat) : Int)) = false := by simp; omega
              rcases Nat.lt_or_ge (a + s) N with hmn | hmn
              · have hd3 : decide (((a + s : Nat) : Int) < ((N : Nat) : Int)) = true := by simp; omega
                simp +contextual only [go_sem, ↓reduceIte, Nat.reduceEqDiff, Nat.reduceAdd, Nat.reduceLeDiff, Nat.reduceLT, reduceCtorEq, k45, hd2, w4, hd3, hsy]
                obtain ⟨r1, r2⟩ := hruns N hmn (by omega)
                obtain ⟨f1, f2, f3⟩ := seg_take l a N (by omega) (by omega)
                have e2 := Stab.seg_two l (lo := a) (mid := a + s) (hi := N) (by omega) (by omega)
                have la := Stab.seg_len (l := l) (lo := a) (hi := a + s) (by omega)
                have lb := Stab.seg_len (l := l) (lo := a + s) (hi := N) (by omega)
                refine ctSym hg hsw hro hsy e hc o hL (by omega) _ (P := l.take a) (A := Stab.seg l a (a + s)) (B := Stab.seg l (a + s) N) (R := l.drop N) (Nat.le_refl _) f1 (by omega) (by omega) (by omega) (by omega) (by omega) r1.srt r2.srt (fun x hx y hy => by have := (r1.mem hx).2; have := (r2.mem hy).1; omega) (by rw [List.append_assoc (l.take a), ← e2, ← Stab.seg_parts l (by omega)]; simp [updH]) fun T hT => ?_
                obtain ⟨hT, sT⟩ := hT
                obtain ⟨n1, n2, n3⟩ := seg_new (l := l) (T := T) (a := a) (b := N) (by omega) (by omega) (by rw [e2]; exact hT)
                have hr' := hdone _ hlt2 n2 fun _ => r1.merge (by omega) (by omega) r2 (by rw [n3]; exact hT) (by rw [n3]; exact sT)
                rw [updH_over]
                simp +contextual only [go_sem, ↓reduceIte, Nat.reduceEqDiff, Nat.reduceAdd, Nat.reduceLeDiff, Nat.reduceLT, reduceCtorEq, k45, w3]
                refine ⟨(_, 2 * s), ?_, ⟨?_, hr', ?_, ?_⟩, .slotsH rfl ?_⟩
                · dsimp only; omega
                · dsimp only; omega
                · dsimp only; omega
                · dsimp only; omega
                · simp +contextual only [go_sem, ↓reduceIte, Nat.reduceEqDiff, Nat.reduceAdd, Nat.reduceLeDiff, Nat.reduceLT, reduceCtorEq]
              · have hd3 : decide (((a + s : Nat) : Int) < ((N : Nat) : Int)) = false := by simp; omega
                have hr' := hdone l hlt2 (Stab.Same.refl _ _ _) fun h1 => hrest hmn h1
                simp +contextual only [go_sem, ↓reduceIte, Nat.reduceEqDiff, Nat.reduceAdd, Nat.reduceLeDiff, Nat.reduceLT, reduceCtorEq, k45, hd2, w4, hd3, w3]
                refine ⟨(l, 2 * s), by dsimp only; omega, ⟨hl, hr', by dsimp only; omega, by dsimp only; omega⟩, .slotsH rfl ?_⟩
                simp +contextual only [go_sem, ↓reduceIte, Nat.reduceEqDiff, Nat.reduceAdd, Nat.reduceLeDiff, Nat.reduceLT, reduceCtorEq]
            · have hd2 : decide (((a + 2 * s : Nat) : Int) ≤ ((N : Nat) : Int)) = true := by simp; omega
              simp +contextual only [go_sem, ↓reduceIte, Nat.reduceEqDiff, Nat.reduceAdd, Nat.reduceLeDiff, Nat.reduceLT, reduceCtorEq, k45, hd2, w2, w4, w5, hsy]
              obtain ⟨r1, r2⟩ := hruns (a + 2 * s) (by omega) (by omega)
              obtain ⟨f1, f2, f3⟩ := seg_take l a (a + 2 * s) (by omega) (by omega)
              have e2 := Stab.seg_two l (lo := a) (mid := a + s) (hi := a + 2 * s) (by omega) (by omega)
              have la := Stab.seg_len (l := l) (lo := a) (hi := a + s) (by omega)
              have lb := Stab.seg_len (l := l) (lo := a + s) (hi := a + 2 * s) (by omega)
              refine ctSym hg hsw hro hsy e hc o hL (by omega) _ (P := l.take a) (A := Stab.seg l a (a + s)) (B := Stab.seg l (a + s) (a + 2 * s)) (R := l.drop (a + 2 * s)) (Nat.le_refl _) f1 (by omega) (by omega) (by omega) (by omega) (by omega) r1.srt r2.srt (fun x hx y hy => by have := (r1.mem hx).2; have := (r2.mem hy).1; omega) (by rw [List.append_assoc (l.take a), ← e2, ← Stab.seg_parts l (by omega)]; simp [updH]) fun T hT => ?_
              obtain ⟨hT, sT⟩ := hT
              obtain ⟨n1, n2, n3⟩ := seg_new (l := l) (T := T) (a := a) (b := a + 2 * s) (by omega) (by omega) (by rw [e2]; exact hT)
              refine ⟨(_, q + 1), ?_, ⟨?_, hstep _ hge2 n2 (r1.merge (by omega) (by omega) r2 (by rw [n3]; exact hT) (by rw [n3]; exact sT))⟩, .slotsH (updH_over _ _ _ _) ?_⟩
              · dsimp only; omega
              · dsimp only; omega
              · dsimp only
                rw [hnext]
                simp +contextual only [go_sem, ↓reduceIte, Nat.reduceEqDiff, Nat.reduceAdd, Nat.reduceLeDiff, Nat.reduceLT, reduceCtorEq]
        · have hd1 : decide (((s : Nat) : Int) < ((N : Nat) : Int)) = false := by simp; omega
          simp +contextual only [go_sem, ↓reduceIte, Nat.reduceEqDiff, Nat.reduceAdd, Nat.reduceLeDiff, Nat.reduceLT, reduceCtorEq, k45, hd1]
          exact ⟨l, hr.whole hsN hl, rfl⟩
    · have hd : decide (((q * 20 + 20 : Nat) : Int) ≤ ((N : Nat) : Int)) = true := by simp; omega
      have w1 : IntKind.i64.wrap (((q * 20 + 20 : Nat) : Int) + 20) = (((q + 1) * 20 + 20 : Nat) : Int) := by rw [IntKind.wrap_i64]; omega
      simp +contextual only [go_sem, ↓reduceIte, Nat.reduceEqDiff, Nat.reduceAdd, Nat.reduceLeDiff, Nat.reduceLT, reduceCtorEq, k45, hd, w1, hin]
      obtain ⟨f1, f2, f3⟩ := seg_take l (q * 20) (q * 20 + 20) (by omega) (by omega)
      have hseg := hb.seg hge
      refine ctIns hg e hc o hL (P := l.take (q * 20)) (S := Stab.seg l (q * 20) (q * 20 + 20)) (R := l.drop (q * 20 + 20)) f1 f2 (by omega) (by omega) (by rw [hseg]; exact List.pairwise_lt_range') (by rw [← Stab.seg_parts l (by omega)]; simp [updH]) fun T hT sT => ?_
      obtain ⟨n1, n2, n3⟩ := seg_new (by omega) (by omega) hT
      refine ⟨(l.take (q * 20) ++ T ++ l.drop (q * 20 + 20), q + 1), by dsimp only; omega, ⟨by dsimp only; omega, ?_⟩, .slotsH (updH_over _ _ _ _) ?_⟩
      · refine hb.step hge n2 ⟨?_, by rw [n3]; exact sT⟩
        rw [n3, show q * 20 + 20 - q * 20 = 20 by omega]
        rw [hseg, show q * 20 + 20 - q * 20 = 20 by omega] at hT
        exact hT
      · simp +contextual only [go_sem, ↓reduceIte, Nat.reduceEqDiff, Nat.reduceAdd, Nat.reduceLeDiff, Nat.reduceLT, reduceCtorEq, show q * 20 + 20 = (q + 1) * 20 by omega]
theorem ctSS {Φ : Specs} (hg : Idl.Good Tryd.prog Φ) (hst : Φ 45 = none) (hin : Φ 50 = none) (hsw : Φ 71 = none) (hro : Φ 61 = none) (hsy : Φ 51 = none) {g : FuncId} {h : Nat → List V} {c : Nat → Nat → Int} (e : Els 2 h) (hc : CmpT Tryd.prog g h c)
    (h1 : ∀ x, ¬ c x x < 0) (h2 : ∀ x y z, c x y < 0 → c y z < 0 → c x z < 0) (h3 : ∀ x y z, ¬ c x y < 0 → ¬ c y z < 0 → ¬ c x z < 0)
    {C : Ctx} {τ : Nat → V} {H : Heap} {n id N : Nat} (hbig : N < 1152921504606846976) (hH : H id = .live 2 (row h (List.range N)) true) {Q : V → SF → Prop}
    (hk : ∀ T, T.Perm (List.range N) → T.Pairwise (fun x y => c x y < 0 ∨ (¬ c y x < 0 ∧ x < y)) → Q (.tup []) ⟨τ, updH H id (.live 2 (row h T) true), n⟩) :
    CallT Tryd.prog C 36 [.own id 0 N, .sc (.func (.func g) #[] #[])] ⟨τ, H, n⟩ Q := by
  refine CallT.heapE (p := fun T => T.Perm (List.range N) ∧ T.Pairwise (fun x y => c x y < 0 ∨ (¬ c y x < 0 ∧ x < y))) (fun T hT => hk T hT.1 hT.2) ?_
  refine CallT.of_walk hg k36 ic36 (by simp) fun C1 hlow1 => ?_
  simp +contextual only [go_sem, ↓reduceIte, Nat.reduceEqDiff, Nat.reduceAdd, Nat.reduceLeDiff, Nat.reduceLT, reduceCtorEq, c36, k36, hst]
  refine ctStb hg hin hsw hro hsy e hc (Stab.tag_ord (N := N) h1 h2 h3) (fun x y hxy => (Stab.tag_test hxy).symm) hbig hH fun T hT => ?_
  simp +contextual only [go_sem, ↓reduceIte, Nat.reduceEqDiff, Nat.reduceAdd, Nat.reduceLeDiff, Nat.reduceLT, reduceCtorEq, k36]
  exact ⟨T, hT, rfl⟩
end Go.Proofs.YtfmeplnoikfndaaDoor
