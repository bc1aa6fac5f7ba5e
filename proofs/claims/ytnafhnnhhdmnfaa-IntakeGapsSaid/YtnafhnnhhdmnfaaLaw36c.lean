/- The law of finding. -/
import Derived.Test.YtnafhnnhhdmnfaaLaw36b
import Derived.Test.YtnafhnnhhdmnfaaMiss36b
namespace Go.Proofs.Ytnafhnnhhdmnfaa
set_option linter.all false
open Go.Idl
set_option maxHeartbeats 4000000
set_option maxRecDepth 100000
attribute [local go_sem] Try.underlying3 Try.underlying5 Try.underlying9 Try.underlying4 agKey
theorem C19 : Contract Try.prog 19 SOfR := con19 good0
theorem C20 : Contract Try.prog 20 SSameI := con20 good0
theorem C21 : Contract Try.prog 21 SSameK := con21 good0
theorem C23 : Contract Try.prog 23 SKeys := con23 (good0.add (facts_enters ic38) C38) rfl
theorem C22 : Contract Try.prog 22 SKeys := con22 ((good0.add (facts_enters ic28) C28).add (facts_enters ic29) C29) rfl rfl
theorem C16 : Contract Try.prog 16 SMissI := con16 ((good0.add (facts_enters ic34) C34).add (facts_enters ic35) C35) rfl rfl
theorem C17 : Contract Try.prog 17 SMissR := con17 (good0.add (facts_enters ic19) C19) rfl
theorem eqZ_self {α : Type} {f : α → α → Bool} (hf : ∀ a, f a a = true) (l : List α) : eqZ f l l = true := by
  simp only [eqZ, decide_true, Bool.true_and, List.all_eq_true]
  intro p hp
  obtain ⟨i, hi⟩ := List.mem_iff_getElem?.1 hp
  obtain ⟨h1, h2⟩ := zip_get hi
  rw [h1] at h2
  rw [Option.some.inj h2]; exact hf _
theorem eqI_self (a : Int) : eqI a a = true := by simp [eqI]
theorem twos_keys : ∀ (l : List EvD) (p : Option EvD), twos (keysF p l) = true
  | [], _ => rfl
  | e :: l, p => by
    have := twos_keys l (some e)
    simp only [twos, keysF, List.all_append] at this ⊢
    rw [this]
    cases newK p e <;> rfl
theorem eqP_all {l : List (List ByteArray)} (h : twos l = true) : eqZ eqP l l = true := by
  simp only [eqZ, decide_true, Bool.true_and, List.all_eq_true]
  intro p hp
  obtain ⟨i, hi⟩ := List.mem_iff_getElem?.1 hp
  obtain ⟨h1, h2⟩ := zip_get hi
  obtain ⟨a, b, e⟩ := twos_at h h1
  rw [h1] at h2
  rw [← Option.some.inj h2, e]
  simp [eqP]
theorem con5 {Φ : Specs} (hg : Idl.Good Try.prog Φ) (h9 : Φ 9 = some SShort) (h10 : Φ 10 = some Aw) 
    (h12 : Φ 12 = some SCol) (h16 : Φ 16 = some SMissI) (h17 : Φ 17 = some SMissR) (h15 : Φ 15 = some SSameL)
    (h18 : Φ 18 = some SOf) (h19 : Φ 19 = some SOfR) (h20 : Φ 20 = some SSameI) (h21 : Φ 21 = some SSameK) (h22 : Φ 22 = some SKeys) (h23 : Φ 23 = some SKeys) :
    Contract Try.prog 5 (FT fun (_ : List EvD × ByteArray × ByteArray × Unit) => some true) := by
  refine conT hg k5 ic5 (by decide) fun C t r h => ?_
  obtain ⟨l, x, y, u⟩ := t
  cases h
  by_cases hl : colS l = 0
  · have hC := colS_ok.1 hl
    have hlen := hC.len
    have hl1 : l.length ≤ 100000 := by omega
    have hne : (colS l != 0) = false := by simp [hl]
    have e3 := seg_of hC x y
    have hm := miss_eq hC x y
    rw [e3] at hm
    obtain ⟨e1, -⟩ := Prod.mk.inj hm
    have r1 : rdsOk (l.filter (ofP x y)) = true := by
      simp only [rdsOk, Bool.and_eq_true, List.all_eq_true, decide_eq_true_eq]
      have := List.length_filter_le (ofP x y) l
      exact ⟨by omega, fun z hz => by have := ev_rds (hC.ok z (List.mem_filter.1 hz).1); omega⟩
    have r2 : ∀ p n, (cutN p n).length ≤ 1000000 := fun p n => by have := cutN_len p n; omega
    have r3 : (keysF none l).length ≤ 1000000 ∧ twos (keysF none l) = true ∧ twos (keysF none l) = true := ⟨by have := keysF_len l none; omega, twos_keys _ _, twos_keys _ _⟩
    have s1 : ∀ z : List EvD, eqZ sameE z z = true := eqZ_self fun a => sameE_iff.2 rfl
    have s2 : ∀ z : List Int, eqZ eqI z z = true := eqZ_self eqI_self
    have s3 := eqP_all (twos_keys l none)
    simp +contextual only [go_sem, ↓reduceIte, Nat.reduceEqDiff, Nat.reduceAdd, Nat.reduceLeDiff, Nat.reduceLT, reduceCtorEq, c5, k5, h9, h10, h12, h16, h17, h15, h18, h19, h20, h21, h22, h23, hl, hl1, hne, e3, e1, r1, r2, r3, s1, s2, s3, and_self, beq_self_eq_true]
  · have hne : (colS l != 0) = true := by simp [hl]
    simp +contextual only [go_sem, ↓reduceIte, Nat.reduceEqDiff, Nat.reduceAdd, Nat.reduceLeDiff, Nat.reduceLT, reduceCtorEq, c5, k5, h9, h10, h12, hne, Bool.or_true, Bool.true_eq_false, false_implies, implies_true]
theorem C5 : Contract Try.prog 5 (FT fun (_ : List EvD × ByteArray × ByteArray × Unit) => some true) := by
  have g := good0
  have g := g.add (facts_enters ic9) C9
  have g := g.add (facts_enters ic10) conAw
  have g := g.add (facts_enters ic12) C12
  have g := g.add (facts_enters ic16) C16
  have g := g.add (facts_enters ic17) C17
  have g := g.add (facts_enters ic15) C15
  have g := g.add (facts_enters ic18) C18
  have g := g.add (facts_enters ic19) C19
  have g := g.add (facts_enters ic20) C20
  have g := g.add (facts_enters ic21) C21
  have g := g.add (facts_enters ic22) C22
  have g := g.add (facts_enters ic23) C23
  exact con5 g rfl rfl rfl rfl rfl rfl rfl rfl rfl rfl rfl rfl
end Go.Proofs.Ytnafhnnhhdmnfaa
