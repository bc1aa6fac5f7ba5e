/- Find and Since agree with the reference. -/
import Derived.Test.YtaagkdmmdgajjaaLaw45
namespace Go.Proofs.Ytaagkdmmdgajjaa
set_option linter.all false
open Go.Idl
set_option maxHeartbeats 4000000
set_option maxRecDepth 100000
attribute [local go_sem] eqOK agObj agDir agOK agSh agMk agOp Try.underlying3 Try.underlying5 Try.underlying9 Try.underlying4
theorem lngL_few : ∀ {l : List OpD} {n : Int} {i : Nat}, lngL l n i = false → i ≤ 100 → i + l.length ≤ 100 ∧ ∀ x, x ∈ l → x.objects.length ≤ 300
  | [], _, i, _, hi => ⟨by simpa using hi, fun x hx => by cases hx⟩
  | x :: l, n, i, h, hi => by
    unfold lngL at h
    cases hb : (decide ((i : Int) ≥ 100) || lngO x.objects 0 0) with
    | true => rw [hb] at h; cases h
    | false =>
      rw [hb, cond_false] at h
      simp only [Bool.or_eq_false_iff, decide_eq_false_iff_not] at hb
      obtain ⟨h1, h2⟩ := lngL_few h (by omega)
      have h3 := lngO_len hb.2 (by omega)
      refine ⟨by rw [List.length_cons]; omega, fun y hy => ?_⟩
      rcases List.mem_cons.1 hy with rfl | hy
      · omega
      · exact h2 y hy
theorem few_of {l : List OpD} (h : lngL l 0 0 = false) : fewL l = true := by
  obtain ⟨h1, h2⟩ := lngL_few h (by omega)
  simp only [fewL, Bool.and_eq_true, decide_eq_true_eq, List.all_eq_true]
  exact ⟨by omega, h2⟩
def okOps (l : List OpD) : Prop := l.length ≤ 9223372036854775807 ∧ l.all (fun x => decide (x.objects.length ≤ 9223372036854775807)) = true
theorem run_few {party : ByteArray} {l : List OpD} (hN : okName party = true) (hf : fewL l = true) : OkD party 30001 (runD (newD party) l) := by
  simp only [fewL, Bool.and_eq_true, decide_eq_true_eq, List.all_eq_true] at hf
  have h := run_ok (new_ok hN) hf.2 (by omega)
  exact ⟨h.w, h.p, Int.le_trans h.n (by omega)⟩
theorem newsD_len : ∀ (l : List ObjD) (ms : List Int) (k : Int), (newsD l ms k).length ≤ l.length
  | [], _, _ => by simp [newsD]
  | _ :: _, [], _ => by simp [newsD]
  | o :: l, m :: ms, k => by
    have := newsD_len l ms k
    unfold newsD
    cases decide (m > k) <;> simp <;> omega
theorem sameO_self (o : ObjD) : sameO o o = true := sameO_iff.2 rfl
theorem sameL_self (l : List ObjD) : sameL l l = true := sameL_iff.2 rfl
theorem con4 {Φ : Specs} (hg : Idl.Good Try.prog Φ) (h9 : Φ 9 = some SEx) (h12 : Φ 12 = some SLgl) (h13 : Φ 13 = some SPlay)
    (h14 : Φ 14 = some SFind) (h15 : Φ 15 = some SFind) (h16 : Φ 16 = some SSin) (h17 : Φ 17 = some SSin) (h18 : Φ 18 = some SSam) (h19 : Φ 19 = some SSms) :
    Contract Try.prog 4 (FT fun (t : ByteArray × List OpD × Int × ByteArray × ByteArray × Int × Unit) => if t.2.1.length ≤ 9223372036854775807 ∧ t.2.1.all (fun x => decide (x.objects.length ≤ 9223372036854775807)) = true then some true else none) := by
  refine conT hg k4 ic4 (by decide) fun C t r h => ?_
  obtain ⟨party, l, kind, owner, id, mark, u⟩ := t
  dsimp only at h
  split at h
  · rename_i hl
    obtain ⟨hl, ho⟩ := hl
    cases h
    cases h1 : lngL l 0 0 with
    | true =>
      simp +contextual only [go_sem, ↓reduceIte, Nat.reduceEqDiff, Nat.reduceAdd, Nat.reduceLeDiff, Nat.reduceLT, reduceCtorEq, c4, k4, h9, h12, hl, ho, and_self, h1]
    | false =>
      have hf := few_of h1
      cases hN : okName party with
      | false =>
        have hp : playS party l = (⟨⟨#[]⟩, [], [], 0⟩, false) := by simp only [playS, hN, cond_false]
        simp +contextual only [go_sem, ↓reduceIte, Nat.reduceEqDiff, Nat.reduceAdd, Nat.reduceLeDiff, Nat.reduceLT, reduceCtorEq, c4, k4, h9, h12, h13, hl, ho, and_self, h1, hf, hp, List.map_nil]
      | true =>
        have hp : playS party l = (runD (newD party) l, true) := by simp only [playS, hN, cond_true]
        have hD := run_few hN hf
        generalize runD (newD party) l = D at hp hD
        have a0 := hD.w.max
        have a1 : D.objects.length ≤ 1000000 := by omega
        have a2 := dat_ok hD.w
        have a3 := hD.w.len
        have a4 : (newsD D.objects D.marks mark).length ≤ 1000000 := Nat.le_trans (newsD_len _ _ _) a1
        simp +contextual only [go_sem, ↓reduceIte, Nat.reduceEqDiff, Nat.reduceAdd, Nat.reduceLeDiff, Nat.reduceLT, reduceCtorEq, c4, k4, h9, h12, h13, h14, h15, h16, h17, h18, h19, hl, ho, and_self, h1, hf, hp, a1, a2, a3, a4, sameO_self, sameL_self, beq_self_eq_true]
  · cases h
end Go.Proofs.Ytaagkdmmdgajjaa
