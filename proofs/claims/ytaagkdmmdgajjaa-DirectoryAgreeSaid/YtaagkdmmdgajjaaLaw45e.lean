/- Since returns what was stored in the meantime. -/
import Derived.Test.YtaagkdmmdgajjaaLaw45d
namespace Go.Proofs.Ytaagkdmmdgajjaa
set_option linter.all false
open Go.Idl
set_option maxHeartbeats 4000000
set_option maxRecDepth 100000
attribute [local go_sem] eqOK agObj agDir agOK agSh agMk agOp Try.underlying3 Try.underlying5 Try.underlying9 Try.underlying4
theorem not_beq_self (b : Bool) : ((!b) == b) = false := by cases b <;> rfl
theorem con6 {Φ : Specs} (hg : Idl.Good Try.prog Φ) (h9 : Φ 9 = some SEx) (h12 : Φ 12 = some SLgl) (h13 : Φ 13 = some SPlay)
    (h16 : Φ 16 = some SSin) (h22 : Φ 22 = some SCall) (h23 : Φ 23 = some SHas) :
    Contract Try.prog 6 (FT fun (t : ByteArray × List OpD × List OpD × Unit) => if (t.2.1.length ≤ 9223372036854775807 ∧ t.2.1.all (fun x => decide (x.objects.length ≤ 9223372036854775807)) = true) ∧ (t.2.2.1.length ≤ 9223372036854775807 ∧ t.2.2.1.all (fun x => decide (x.objects.length ≤ 9223372036854775807)) = true) then some true else none) := by
  refine conT hg k6 ic6 (by decide) fun C t r h => ?_
  obtain ⟨party, l, m, u⟩ := t
  dsimp only at h
  split at h
  · rename_i hl
    obtain ⟨⟨hl, ho⟩, hm, hmo⟩ := hl
    cases h
    cases h1 : lngL l 0 0 with
    | true =>
      simp +contextual only [go_sem, ↓reduceIte, Nat.reduceEqDiff, Nat.reduceAdd, Nat.reduceLeDiff, Nat.reduceLT, reduceCtorEq, c6, k6, h9, h12, hl, ho, hm, hmo, and_self, h1]
    | false =>
      have hf := few_of h1
      cases h2 : lngL m 0 0 with
      | true =>
        simp +contextual only [go_sem, ↓reduceIte, Nat.reduceEqDiff, Nat.reduceAdd, Nat.reduceLeDiff, Nat.reduceLT, reduceCtorEq, c6, k6, h9, h12, hl, ho, hm, hmo, and_self, h1, h2]
      | false =>
        cases hp4 : decide ((party.size : Int) > 4096) with
        | true =>
          simp +contextual only [go_sem, ↓reduceIte, Nat.reduceEqDiff, Nat.reduceAdd, Nat.reduceLeDiff, Nat.reduceLT, reduceCtorEq, c6, k6, h9, h12, hl, ho, hm, hmo, and_self, h1, h2, hp4]
        | false =>
          cases hN : okName party with
          | false =>
            have hp : playS party l = (⟨⟨#[]⟩, [], [], 0⟩, false) := by simp only [playS, hN, cond_false]
            simp +contextual only [go_sem, ↓reduceIte, Nat.reduceEqDiff, Nat.reduceAdd, Nat.reduceLeDiff, Nat.reduceLT, reduceCtorEq, c6, k6, h9, h12, h13, hl, ho, hm, hmo, and_self, h1, h2, hp4, hf, hp, List.map_nil]
          | true =>
            have hp : playS party l = (runD (newD party) l, true) := by simp only [playS, hN, cond_true]
            have hD := run_few hN hf
            generalize runD (newD party) l = D at hp hD
            have hn := hD.n
            have hn1 := hD.w.n1
            have hmx := hD.w.max
            have a1 : D.objects.length ≤ 1000000 := by omega
            have a2 := dat_ok hD.w
            have a3 := hD.w.len
            have w1 : IntKind.i64.wrap (D.next - 1) = D.next - 1 := by rw [IntKind.wrap_i64]; omega
            obtain ⟨hm1, hm2⟩ := lngL_few h2 (by omega)
            simp +contextual only [go_sem, ↓reduceIte, Nat.reduceEqDiff, Nat.reduceAdd, Nat.reduceLeDiff, Nat.reduceLT, reduceCtorEq, c6, k6, h9, h12, h13, h16, hl, ho, hm, hmo, and_self, h1, h2, hp4, hf, hp, a1, a2, a3, w1, List.length_map]
            refine TriI.loopL hg k6 m (fun i (E : DirD) => ⟨slotsL [(2, Cod.enc m), (7, .ref 0 0 0), (10, .sc (.int .i64 (D.next - 1))), (11, .ref 2 0 0), (44, .sc (.int .i64 m.length)), (45, .sc (.int .i64 i))], objsL [.live 4 [Cod.enc D] true, .unborn, .live 4 [Cod.enc E] true], 3⟩)
              (fun xs E => ExtD D E ∧ OkD party (30001 + 300 * ((m.length - xs.length : Nat) : Int)) E ∧ ∀ x, x ∈ xs → x.objects.length ≤ 300) D (.back rfl ?_) ⟨ExtD.refl hD.w, by rw [Nat.sub_self]; exact hD, hm2⟩ ?_ ?_
            · simp +contextual only [go_sem, ↓reduceIte, Nat.reduceEqDiff, Nat.reduceAdd, Nat.reduceLeDiff, Nat.reduceLT, reduceCtorEq, List.length_map, low_obs, low_ints]
              rfl
            · intro E hinv
              obtain ⟨g1, g2, _⟩ := hinv
              have b0 := g2.w.max
              have b1 : E.objects.length ≤ 1000000 := by omega
              have b2 := dat_ok g2.w
              have b3 := g2.w.len
              have b4 : (newsD E.objects E.marks (D.next - 1)).length ≤ 1000000 := Nat.le_trans (newsD_len _ _ _) b1
              simp +contextual only [go_sem, ↓reduceIte, Nat.reduceEqDiff, Nat.reduceAdd, Nat.reduceLeDiff, Nat.reduceLT, reduceCtorEq, k6, Int.lt_irrefl, decide_false, h16, b1, b2, b3, and_self, List.length_map]
              refine TriI.loopL hg k6 E.objects (fun i (_ : Unit) => ⟨slotsL [(7, .ref 0 0 0), (11, .ref 2 0 0), (13, Cod.enc (newsD E.objects E.marks (D.next - 1))), (67, .sc (.int .i64 E.objects.length)), (68, .sc (.int .i64 i))], objsL [.live 4 [Cod.enc D] true, .unborn, .live 4 [Cod.enc E] true], 3⟩)
                (fun xs _ => True) () (.back rfl ?_) trivial ?_ ?_
              · simp +contextual only [go_sem, ↓reduceIte, Nat.reduceEqDiff, Nat.reduceAdd, Nat.reduceLeDiff, Nat.reduceLT, reduceCtorEq, List.length_map, low_obs, low_ints]
                rfl
              · intro _ _
                simp +contextual only [go_sem, ↓reduceIte, Nat.reduceEqDiff, Nat.reduceAdd, Nat.reduceLeDiff, Nat.reduceLT, reduceCtorEq, k6, Int.lt_irrefl, decide_false, h9]
              · intro i _ x xs hdr hlt hx _
                have hw := wrap_nat hlt (by omega)
                have hno := news_or hD.w g1 (List.mem_of_getElem? hx)
                simp +contextual only [go_sem, ↓reduceIte, Nat.reduceEqDiff, Nat.reduceAdd, Nat.reduceLeDiff, Nat.reduceLT, reduceCtorEq, k6, lt_dec hlt, hx, hw, h23, a1, b4, hno, not_beq_self, List.length_map, List.getElem?_map, Option.map_some, Int.natCast_nonneg, Int.toNat_natCast]
                refine ⟨rfl, (), trivial, .back rfl ?_⟩
                simp +contextual only [go_sem, ↓reduceIte, Nat.reduceEqDiff, Nat.reduceAdd, Nat.reduceLeDiff, Nat.reduceLT, reduceCtorEq, low_obs, low_ints]
            · intro i E x xs hdr hlt hx hinv
              obtain ⟨g1, g2, g3⟩ := hinv
              have hw := wrap_nat hlt (by omega)
              have hln := congrArg List.length hdr
              rw [List.length_drop, List.length_cons] at hln
              have hxo := g3 x (by simp)
              have hv := (valid_iff E).2 g2.w
              have hEn := g2.n
              have hlen : x.objects.length ≤ 100000 := by omega
              rw [List.length_cons] at hEn g2
              have hnx : E.next + x.objects.length < 4611686018427387904 := by omega
              simp +contextual only [go_sem, ↓reduceIte, Nat.reduceEqDiff, Nat.reduceAdd, Nat.reduceLeDiff, Nat.reduceLT, reduceCtorEq, k6, lt_dec hlt, hx, hw, h22, hv, hlen, hnx, and_self, List.length_map, List.getElem?_map, Option.map_some, Int.natCast_nonneg, Int.toNat_natCast]
              refine ⟨rfl, (callS E x).1, ⟨g1.call g2 hxo (by omega), ?_, fun y hy => g3 y (by simp [hy])⟩, .back rfl ?_⟩
              · have h1 := g2.call hxo (by omega)
                exact ⟨h1.w, h1.p, Int.le_trans h1.n (by omega)⟩
              · simp +contextual only [go_sem, ↓reduceIte, Nat.reduceEqDiff, Nat.reduceAdd, Nat.reduceLeDiff, Nat.reduceLT, reduceCtorEq, low_obs, low_ints]
  · cases h
end Go.Proofs.Ytaagkdmmdgajjaa
