/- Partners that merge know the same. -/
import Derived.Test.YtaagkdmmdgajjaaAgr45
namespace Go.Proofs.Ytaagkdmmdgajjaa
set_option linter.all false
open Go.Idl
set_option maxHeartbeats 4000000
set_option maxRecDepth 100000
attribute [local go_sem] eqOK agObj agDir agOK agSh agMk agOp Try.underlying3 Try.underlying5 Try.underlying9 Try.underlying4
theorem few_puts {l : List OpD} (h : lngL l 0 0 = false) : fewL (l.filter isPut) = true := by
  have h1 := few_of h
  simp only [fewL, Bool.and_eq_true, decide_eq_true_eq, List.all_eq_true] at h1 ⊢
  refine ⟨Nat.le_trans (List.length_filter_le _ _) h1.1, fun x hx => h1.2 x (List.mem_filter.1 hx).1⟩
theorem puts_own {p : ByteArray} {l : List OpD} (hN : okName p = true) (h : lngL l 0 0 = false) : OwnL p (runD (newD p) (l.filter isPut)) := by
  have h1 := few_puts h
  simp only [fewL, Bool.and_eq_true, decide_eq_true_eq, List.all_eq_true] at h1
  refine run_own (new_ok hN) (fun o ho => by cases ho) (fun x hx => ⟨h1.2 x hx, ?_⟩) (by omega)
  have := (List.mem_filter.1 hx).2
  simpa [isPut] using this
theorem con7 {Φ : Specs} (hg : Idl.Good Try.prog Φ) (h9 : Φ 9 = some SEx) (h12 : Φ 12 = some SLgl) (h13 : Φ 13 = some SPlay)
    (h16 : Φ 16 = some SSin) (h20 : Φ 20 = some SMrg) (h23 : Φ 23 = some SHas)
    (hputs : Contract Try.prog 24 SPuts) :
    Contract Try.prog 7 (FT fun (t : ByteArray × ByteArray × List OpD × List OpD × Unit) => if (t.2.2.1.length ≤ 9223372036854775807 ∧ t.2.2.1.all (fun x => decide (x.objects.length ≤ 9223372036854775807)) = true) ∧ (t.2.2.2.1.length ≤ 9223372036854775807 ∧ t.2.2.2.1.all (fun x => decide (x.objects.length ≤ 9223372036854775807)) = true) then some true else none) := by
  refine conT hg k7 ic7 (by decide) fun C t r h => ?_
  obtain ⟨p, q, l, m, u⟩ := t
  dsimp only at h
  split at h
  · rename_i hl
    obtain ⟨⟨hl, ho⟩, hm, hmo⟩ := hl
    cases h
    cases h1 : lngL l 0 0 with
    | true =>
      simp +contextual only [go_sem, ↓reduceIte, Nat.reduceEqDiff, Nat.reduceAdd, Nat.reduceLeDiff, Nat.reduceLT, reduceCtorEq, c7, k7, h9, h12, hl, ho, hm, hmo, and_self, h1]
    | false =>
      have hf := few_puts h1
      have hl1 := lngL_few h1 (by omega)
      cases h2 : lngL m 0 0 with
      | true =>
        simp +contextual only [go_sem, ↓reduceIte, Nat.reduceEqDiff, Nat.reduceAdd, Nat.reduceLeDiff, Nat.reduceLT, reduceCtorEq, c7, k7, h9, h12, hl, ho, hm, hmo, and_self, h1, h2]
      | false =>
        have hf2 := few_puts h2
        have hm1 := lngL_few h2 (by omega)
        cases hp4 : decide ((p.size : Int) > 4096) with
        | true =>
          simp +contextual only [go_sem, ↓reduceIte, Nat.reduceEqDiff, Nat.reduceAdd, Nat.reduceLeDiff, Nat.reduceLT, reduceCtorEq, c7, k7, h9, h12, hl, ho, hm, hmo, and_self, h1, h2, hp4]
        | false =>
          cases hq4 : decide ((q.size : Int) > 4096) with
          | true =>
            simp +contextual only [go_sem, ↓reduceIte, Nat.reduceEqDiff, Nat.reduceAdd, Nat.reduceLeDiff, Nat.reduceLT, reduceCtorEq, c7, k7, h9, h12, hl, ho, hm, hmo, and_self, h1, h2, hp4, hq4]
          | false =>
            cases hpq : decide (p = q) with
            | true =>
              simp +contextual only [go_sem, ↓reduceIte, Nat.reduceEqDiff, Nat.reduceAdd, Nat.reduceLeDiff, Nat.reduceLT, reduceCtorEq, c7, k7, h9, h12, hl, ho, hm, hmo, and_self, h1, h2, hp4, hq4, hpq]
            | false =>
              have hne : p ≠ q := by simpa using hpq
              simp +contextual only [go_sem, ↓reduceIte, Nat.reduceEqDiff, Nat.reduceAdd, Nat.reduceLeDiff, Nat.reduceLT, reduceCtorEq, c7, k7, h9, h12, hl, ho, hm, hmo, and_self, h1, h2, hp4, hq4, hpq]
              refine callT_con (facts_enters ic24) hputs (r := Cod.enc (l.filter isPut)) ((ft_one _ l).trans (by dsimp only; rw [if_pos (by omega)]; rfl)) (by rfl) ?_
              cases hN : okName p with
              | false =>
                have hp : playS p (l.filter isPut) = (⟨⟨#[]⟩, [], [], 0⟩, false) := by simp only [playS, hN, cond_false]
                simp +contextual only [go_sem, ↓reduceIte, Nat.reduceEqDiff, Nat.reduceAdd, Nat.reduceLeDiff, Nat.reduceLT, reduceCtorEq, k7, h9, h13, hf, hf2, hp, List.map_nil]
                refine callT_con (facts_enters ic24) hputs (r := Cod.enc (m.filter isPut)) ((ft_one _ m).trans (by dsimp only; rw [if_pos (by omega)]; rfl)) (by rfl) ?_
                simp +contextual only [go_sem, ↓reduceIte, Nat.reduceEqDiff, Nat.reduceAdd, Nat.reduceLeDiff, Nat.reduceLT, reduceCtorEq, k7, h9, h13, hf, hf2]
              | true =>
                have hp : playS p (l.filter isPut) = (runD (newD p) (l.filter isPut), true) := by simp only [playS, hN, cond_true]
                have hD := run_few hN hf
                have oD := puts_own hN h1
                generalize runD (newD p) (l.filter isPut) = D at hp hD oD
                simp +contextual only [go_sem, ↓reduceIte, Nat.reduceEqDiff, Nat.reduceAdd, Nat.reduceLeDiff, Nat.reduceLT, reduceCtorEq, k7, h9, h13, hf, hf2, hp]
                refine callT_con (facts_enters ic24) hputs (r := Cod.enc (m.filter isPut)) ((ft_one _ m).trans (by dsimp only; rw [if_pos (by omega)]; rfl)) (by rfl) ?_
                cases hM : okName q with
                | false =>
                  have hq : playS q (m.filter isPut) = (⟨⟨#[]⟩, [], [], 0⟩, false) := by simp only [playS, hM, cond_false]
                  simp +contextual only [go_sem, ↓reduceIte, Nat.reduceEqDiff, Nat.reduceAdd, Nat.reduceLeDiff, Nat.reduceLT, reduceCtorEq, k7, h9, h13, hf, hf2, hq, List.map_nil]
                | true =>
                  have hq : playS q (m.filter isPut) = (runD (newD q) (m.filter isPut), true) := by simp only [playS, hM, cond_true]
                  have hE := run_few hM hf2
                  have oE := puts_own hM h2
                  generalize runD (newD q) (m.filter isPut) = E at hq hE oE
                  have n1 := hD.n
                  have n2 := hE.n
                  have n3 := hD.w.n1
                  have n4 := hE.w.n1
                  have x1 := hD.w.max
                  have x2 := hE.w.max
                  have w1 : IntKind.i64.wrap ((D.objects.length : Int) + (E.objects.length : Int)) = (D.objects.length : Int) + (E.objects.length : Int) := by rw [IntKind.wrap_i64]; omega
                  cases h3 : decide ((D.objects.length : Int) + (E.objects.length : Int) > 256) with
                  | true =>
                    simp +contextual only [go_sem, ↓reduceIte, Nat.reduceEqDiff, Nat.reduceAdd, Nat.reduceLeDiff, Nat.reduceLT, reduceCtorEq, k7, h9, h13, hf, hf2, hq, List.length_map, w1, h3]
                  | false =>
                    have h3' : D.objects.length + E.objects.length ≤ 256 := by simp at h3; omega
                    obtain ⟨a1, a2⟩ := agree_merge hD hE hne oD oE h3' (by omega)
                    obtain ⟨b1, b2⟩ := agree_merge hE hD (Ne.symm hne) oE oD (by omega) (by omega)
                    have s1 := news_all D.objects D.marks hD.w.len hD.w.lo
                    have s2 := news_all E.objects E.marks hE.w.len hE.w.lo
                    have l1 : D.objects.length ≤ 1000000 := by omega
                    have l2 : E.objects.length ≤ 1000000 := by omega
                    have d1 := dat_ok hD.w
                    have d2 := dat_ok hE.w
                    have k1 := hD.w.len
                    have k2 := hE.w.len
                    have v1 := (valid_iff D).2 hD.w
                    have v2 := (valid_iff E).2 hE.w
                    have m1 : D.objects.length ≤ 100000 := by omega
                    have m2 : E.objects.length ≤ 100000 := by omega
                    have m3 : D.next + E.objects.length ≤ 4611686018427387904 := by omega
                    have m4 : E.next + D.objects.length ≤ 4611686018427387904 := by omega
                    obtain ⟨A, hA⟩ : ∃ A, mergeS D E.objects = A := ⟨_, rfl⟩
                    obtain ⟨B, hB⟩ : ∃ B, mergeS E D.objects = B := ⟨_, rfl⟩
                    rw [hA] at a1 a2
                    rw [hB] at b1 b2
                    have c1 : (A.2 != (E.objects.length : Int)) = false := by simp [a2]
                    have c2 : (B.2 != (D.objects.length : Int)) = false := by simp [b2]
                    have c3 : ((A.1.objects.length : Int) != (B.1.objects.length : Int)) = false := by rw [a1, b1]; simp; omega
                    have c4 : B.1.objects.length ≤ 1000000 := by rw [b1, List.length_append]; omega
                    have c5 : A.1.objects.length ≤ 1000000 := by rw [a1, List.length_append]; omega
                    simp +contextual only [go_sem, ↓reduceIte, Nat.reduceEqDiff, Nat.reduceAdd, Nat.reduceLeDiff, Nat.reduceLT, reduceCtorEq, k7, h9, h13, hf, hf2, h16, h20, hq, List.length_map, w1, h3, s1, s2, l1, l2, d1, d2, k1, k2, v1, v2, m1, m2, m3, m4, hA, hB, c1, c2, c3, and_self]
                    refine TriI.loopL hg k7 A.1.objects (fun i (_ : Unit) => ⟨slotsL [(10, .ref 0 0 0), (12, .ref 2 0 0), (119, .sc (.int .i64 A.1.objects.length)), (120, .sc (.int .i64 i))], objsL [.live 4 [Cod.enc A.1] true, .unborn, .live 4 [Cod.enc B.1] true], 3⟩)
                      (fun xs _ => True) () (.back rfl ?_) trivial ?_ ?_
                    · simp +contextual only [go_sem, ↓reduceIte, Nat.reduceEqDiff, Nat.reduceAdd, Nat.reduceLeDiff, Nat.reduceLT, reduceCtorEq, List.length_map, low_obs, low_ints]
                      rfl
                    · intro _ _
                      simp +contextual only [go_sem, ↓reduceIte, Nat.reduceEqDiff, Nat.reduceAdd, Nat.reduceLeDiff, Nat.reduceLT, reduceCtorEq, k7, h9, h13, hf, hf2, Int.lt_irrefl, decide_false]
                    · intro i _ x xs hdr hlt hx _
                      have hw := wrap_nat hlt (by omega)
                      have hh : hasO B.1.objects x = true := by
                        rw [b1]
                        refine agree_has _ _ x ?_
                        rw [← a1]
                        exact List.mem_of_getElem? hx
                      simp +contextual only [go_sem, ↓reduceIte, Nat.reduceEqDiff, Nat.reduceAdd, Nat.reduceLeDiff, Nat.reduceLT, reduceCtorEq, k7, h9, h13, hf, hf2, lt_dec hlt, hx, hw, h23, c4, hh, List.length_map, List.getElem?_map, Option.map_some, Int.natCast_nonneg, Int.toNat_natCast]
                      refine ⟨rfl, (), trivial, .back rfl ?_⟩
                      simp +contextual only [go_sem, ↓reduceIte, Nat.reduceEqDiff, Nat.reduceAdd, Nat.reduceLeDiff, Nat.reduceLT, reduceCtorEq, low_obs, low_ints]
  · cases h
end Go.Proofs.Ytaagkdmmdgajjaa
