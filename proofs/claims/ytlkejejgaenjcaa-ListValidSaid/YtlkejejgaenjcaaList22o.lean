/- The laws that compare with the reference; the changes, applied. -/
import Derived.Test.YtlkejejgaenjcaaList22n
namespace Go.Proofs.Ytlkejejgaenjcaa
set_option linter.all false
open Go.Idl
set_option maxHeartbeats 4000000
set_option maxRecDepth 100000
theorem agVer : agOf Try.prog 35 = some (some 2) := by kernel_rfl
attribute [local go_sem] eqTok agTok agLst agVer Try.underlying3 Try.underlying5 Try.underlying9 Try.underlying4
theorem srt_len : ∀ (l out : List TokD), (l.foldl insK out).length ≤ out.length + l.length
  | [], out => by simp
  | x :: l, out => by
    have h1 := srt_len l (insK out x)
    have h2 := len_ins out x
    rw [List.foldl_cons, List.length_cons]
    omega
theorem srtT_len (l : List TokD) : (srtT l).length ≤ l.length := by simpa [srtT] using srt_len l []
theorem full_len {l : TListD} {v : Int} {ts : List TokD} {n : Nat} (h1 : l.tokens.length ≤ n) (h2 : ts.length ≤ n) : (fullS l v ts).1.tokens.length ≤ n := by
  have := srtT_len ts
  unfold fullS
  cases (!(validL l == 0)) <;> simp only [cond_true, cond_false]
  · cases (decide (v < 1) || decide (v > 2147483647)) <;> simp only [cond_true, cond_false]
    · cases decide (v ≤ l.version) <;> simp only [cond_true, cond_false]
      · cases decide ((ts.length : Int) > 128) <;> simp only [cond_true, cond_false]
        · cases (!(fTok [] ts == 0)) <;> simp only [cond_true, cond_false]
          · omega
          · exact h1
        · exact h1
      · exact h1
    · exact h1
  · exact h1
theorem new_len (l ts : List TokD) : (newT l ts).length ≤ l.length + ts.length := by
  have h1 : (l.filter (keptT ts)).length ≤ l.length := List.length_filter_le _ _
  have h2 : (ts.filter putT).length ≤ ts.length := List.length_filter_le _ _
  simp only [newT, List.length_append]
  omega
theorem change_len {l : TListD} {b v : Int} {ts : List TokD} {n : Nat} (h1 : l.tokens.length ≤ n) (h2 : ts.length ≤ n) : (changeS l b v ts).1.tokens.length ≤ 2 * n := by
  have h3 := srtT_len (newT l.tokens ts)
  have h4 := new_len l.tokens ts
  unfold changeS
  cases (!(validL l == 0)) <;> simp only [cond_true, cond_false]
  · cases (decide (v < 1) || decide (v > 2147483647)) <;> simp only [cond_true, cond_false]
    · cases ((b != l.version) || decide (v ≤ b)) <;> simp only [cond_true, cond_false]
      · cases decide ((ts.length : Int) > 128) <;> simp only [cond_true, cond_false]
        · cases (!(cTok l.tokens [] ts == 0)) <;> simp only [cond_true, cond_false]
          · cases decide (((newT l.tokens ts).length : Int) > 128) <;> simp only [cond_true, cond_false] <;> omega
          · omega
        · omega
      · omega
    · omega
  · omega
theorem diff_len {a b : TListD} {n : Nat} (h1 : a.tokens.length ≤ n) (h2 : b.tokens.length ≤ n) : (diffS a b).1.length ≤ 2 * n := by
  have h3 := srtT_len (difT a.tokens b.tokens)
  have h4 : (difT a.tokens b.tokens).length ≤ b.tokens.length + a.tokens.length := by
    have k1 : (b.tokens.filter (chT a.tokens)).length ≤ b.tokens.length := List.length_filter_le _ _
    have k2 : (restT b.tokens a.tokens).length ≤ a.tokens.length := List.length_filter_le _ _
    simp only [difT, List.length_append, List.length_map]
    omega
  unfold diffS
  cases (!(validL a == 0)) <;> simp only [cond_true, cond_false]
  · cases (!(validL b == 0)) <;> simp only [cond_true, cond_false]
    · cases decide (b.version ≤ a.version) <;> simp only [cond_true, cond_false]
      · omega
      · simp
    · simp
  · simp
theorem con3 {Φ : Specs} (hg : Idl.Good Try.prog Φ) (h11 : Φ 11 = some SEx) (h10 : Φ 10 = some SSml) (h12 : Φ 12 = some SVal) (h13 : Φ 13 = some SVal) :
    Contract Try.prog 3 (FT fun (t : TListD × Unit) => some true) := by
  refine conT hg k3 ic3 (by decide) fun C t r h => ?_
  obtain ⟨l, u⟩ := t
  cases h
  cases h1 : decide ((l.tokens.length : Int) ≤ 140) with
  | false =>
    simp +contextual only [go_sem, ↓reduceIte, Nat.reduceEqDiff, Nat.reduceAdd, Nat.reduceLeDiff, Nat.reduceLT, reduceCtorEq, c3, k3, h11, h10, h1]
  | true =>
    have a1 : l.tokens.length ≤ 1000000 := by simp at h1; omega
    simp +contextual only [go_sem, ↓reduceIte, Nat.reduceEqDiff, Nat.reduceAdd, Nat.reduceLeDiff, Nat.reduceLT, reduceCtorEq, c3, k3, h11, h10, h12, h13, h1, a1, beq_self_eq_true]
    rfl
theorem con4 {Φ : Specs} (hg : Idl.Good Try.prog Φ) (h11 : Φ 11 = some SEx) (h10 : Φ 10 = some SSml) (h14 : Φ 14 = some SFul) (h15 : Φ 15 = some SFul) (h16 : Φ 16 = some SSmL) :
    Contract Try.prog 4 (FT fun (t : TListD × Int × List TokD × Unit) => some true) := by
  refine conT hg k4 ic4 (by decide) fun C t r h => ?_
  obtain ⟨l, v, ts, u⟩ := t
  cases h
  cases h1 : decide ((l.tokens.length : Int) ≤ 140) with
  | false =>
    simp +contextual only [go_sem, ↓reduceIte, Nat.reduceEqDiff, Nat.reduceAdd, Nat.reduceLeDiff, Nat.reduceLT, reduceCtorEq, c4, k4, h11, h10, h1]
  | true =>
    cases h2 : decide ((ts.length : Int) ≤ 140) with
    | false =>
      simp +contextual only [go_sem, ↓reduceIte, Nat.reduceEqDiff, Nat.reduceAdd, Nat.reduceLeDiff, Nat.reduceLT, reduceCtorEq, c4, k4, h11, h10, h1, h2]
    | true =>
      have b1 : l.tokens.length ≤ 140 := by simp at h1; omega
      have b2 : ts.length ≤ 140 := by simp at h2; omega
      have a1 : l.tokens.length ≤ 1000000 := by omega
      have a2 : ts.length ≤ 1000000 := by omega
      have a3 : (fullS l v ts).1.tokens.length ≤ 1000000 := Nat.le_trans (full_len b1 b2) (by omega)
      simp +contextual only [go_sem, ↓reduceIte, Nat.reduceEqDiff, Nat.reduceAdd, Nat.reduceLeDiff, Nat.reduceLT, reduceCtorEq, c4, k4, h11, h10, h14, h15, h16, h1, h2, a1, a2, a3, and_self, sameLst_self, beq_self_eq_true]
theorem con5 {Φ : Specs} (hg : Idl.Good Try.prog Φ) (h11 : Φ 11 = some SEx) (h10 : Φ 10 = some SSml) (h17 : Φ 17 = some SChg) (h18 : Φ 18 = some SChg) (h16 : Φ 16 = some SSmL) :
    Contract Try.prog 5 (FT fun (t : TListD × Rdg × List TokD × Unit) => some true) := by
  refine conT hg k5 ic5 (by decide) fun C t r h => ?_
  obtain ⟨l, v, ts, u⟩ := t
  cases h
  cases h1 : decide ((l.tokens.length : Int) ≤ 140) with
  | false =>
    simp +contextual only [go_sem, ↓reduceIte, Nat.reduceEqDiff, Nat.reduceAdd, Nat.reduceLeDiff, Nat.reduceLT, reduceCtorEq, c5, k5, h11, h10, h1]
  | true =>
    cases h2 : decide ((ts.length : Int) ≤ 140) with
    | false =>
      simp +contextual only [go_sem, ↓reduceIte, Nat.reduceEqDiff, Nat.reduceAdd, Nat.reduceLeDiff, Nat.reduceLT, reduceCtorEq, c5, k5, h11, h10, h1, h2]
    | true =>
      have b1 : l.tokens.length ≤ 140 := by simp at h1; omega
      have b2 : ts.length ≤ 140 := by simp at h2; omega
      have a1 : l.tokens.length ≤ 1000000 := by omega
      have a2 : ts.length ≤ 1000000 := by omega
      have a3 : (changeS l v.time v.reg ts).1.tokens.length ≤ 1000000 := Nat.le_trans (change_len b1 b2) (by omega)
      simp +contextual only [go_sem, ↓reduceIte, Nat.reduceEqDiff, Nat.reduceAdd, Nat.reduceLeDiff, Nat.reduceLT, reduceCtorEq, c5, k5, h11, h10, h17, h18, h16, h1, h2, a1, a2, a3, and_self, sameLst_self, beq_self_eq_true]
theorem con6 {Φ : Specs} (hg : Idl.Good Try.prog Φ) (h11 : Φ 11 = some SEx) (h10 : Φ 10 = some SSml) (h19 : Φ 19 = some SDif) (h20 : Φ 20 = some SDif) (h21 : Φ 21 = some SSmT) :
    Contract Try.prog 6 (FT fun (t : TListD × TListD × Unit) => some true) := by
  refine conT hg k6 ic6 (by decide) fun C t r h => ?_
  obtain ⟨a, b, u⟩ := t
  cases h
  cases h1 : decide ((a.tokens.length : Int) ≤ 140) with
  | false =>
    simp +contextual only [go_sem, ↓reduceIte, Nat.reduceEqDiff, Nat.reduceAdd, Nat.reduceLeDiff, Nat.reduceLT, reduceCtorEq, c6, k6, h11, h10, h1]
  | true =>
    cases h2 : decide ((b.tokens.length : Int) ≤ 140) with
    | false =>
      simp +contextual only [go_sem, ↓reduceIte, Nat.reduceEqDiff, Nat.reduceAdd, Nat.reduceLeDiff, Nat.reduceLT, reduceCtorEq, c6, k6, h11, h10, h1, h2]
    | true =>
      have b1 : a.tokens.length ≤ 140 := by simp at h1; omega
      have b2 : b.tokens.length ≤ 140 := by simp at h2; omega
      have a1 : a.tokens.length ≤ 1000000 := by omega
      have a2 : b.tokens.length ≤ 1000000 := by omega
      have a3 : (diffS a b).1.length ≤ 1000000 := Nat.le_trans (diff_len b1 b2) (by omega)
      simp +contextual only [go_sem, ↓reduceIte, Nat.reduceEqDiff, Nat.reduceAdd, Nat.reduceLeDiff, Nat.reduceLT, reduceCtorEq, c6, k6, h11, h10, h19, h20, h21, h1, h2, a1, a2, a3, and_self, sameT_self, beq_self_eq_true]
theorem con7 {Φ : Specs} (hg : Idl.Good Try.prog Φ) (h11 : Φ 11 = some SEx) (h10 : Φ 10 = some SSml) (h19 : Φ 19 = some SDif) (h17 : Φ 17 = some SChg) (h16 : Φ 16 = some SSmL) :
    Contract Try.prog 7 (FT fun (t : TListD × TListD × Unit) => some true) := by
  refine conT hg k7 ic7 (by decide) fun C t r h => ?_
  obtain ⟨a, b, u⟩ := t
  cases h
  cases h1 : decide ((a.tokens.length : Int) ≤ 140) with
  | false =>
    simp +contextual only [go_sem, ↓reduceIte, Nat.reduceEqDiff, Nat.reduceAdd, Nat.reduceLeDiff, Nat.reduceLT, reduceCtorEq, c7, k7, h11, h10, h1]
  | true =>
    cases h2 : decide ((b.tokens.length : Int) ≤ 140) with
    | false =>
      simp +contextual only [go_sem, ↓reduceIte, Nat.reduceEqDiff, Nat.reduceAdd, Nat.reduceLeDiff, Nat.reduceLT, reduceCtorEq, c7, k7, h11, h10, h1, h2]
    | true =>
      have b1 : a.tokens.length ≤ 140 := by simp at h1; omega
      have b2 : b.tokens.length ≤ 140 := by simp at h2; omega
      have a1 : a.tokens.length ≤ 1000000 := by omega
      have a2 : b.tokens.length ≤ 1000000 := by omega
      obtain ⟨d, hd⟩ : ∃ d, diffS a b = d := ⟨_, rfl⟩
      obtain ⟨d, e⟩ := d
      cases h3 : e != 0 with
      | true =>
        simp +contextual only [go_sem, ↓reduceIte, Nat.reduceEqDiff, Nat.reduceAdd, Nat.reduceLeDiff, Nat.reduceLT, reduceCtorEq, c7, k7, h11, h10, h19, hd, h1, h2, h3, a1, a2, and_self]
      | false =>
        have he : e = 0 := by simpa using h3
        subst he
        cases h4 : decide ((d.length : Int) > 128) with
        | true =>
          simp +contextual only [go_sem, ↓reduceIte, Nat.reduceEqDiff, Nat.reduceAdd, Nat.reduceLeDiff, Nat.reduceLT, reduceCtorEq, c7, k7, h11, h10, h19, hd, h1, h2, h3, h4, a1, a2, and_self, List.length_map]
        | false =>
          have h4' : d.length ≤ 128 := by simp at h4; omega
          have a4 : d.length ≤ 1000000 := by omega
          have hc := back_eq hd h4'
          simp +contextual only [go_sem, ↓reduceIte, Nat.reduceEqDiff, Nat.reduceAdd, Nat.reduceLeDiff, Nat.reduceLT, reduceCtorEq, c7, k7, h11, h10, h19, h17, h16, hd, hc, h1, h2, h3, h4, a1, a2, a4, and_self, sameLst_self, beq_self_eq_true, List.length_map]
end Go.Proofs.Ytlkejejgaenjcaa
