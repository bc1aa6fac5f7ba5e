/- Both compute the balance that is wanted. -/
import Derived.Test.YtalhbhbkdfmhgaaDeal25
namespace Go.Proofs.Ytalhbhbkdfmhgaa
set_option linter.all false
open Go.Idl
set_option linter.all false
set_option maxHeartbeats 16000000
set_option maxRecDepth 100000
theorem eqBal : eqInfo Try.prog 83 = some [.s, .s, .s, .i .i64] := by kernel_rfl
attribute [local go_sem] agPty agCdr agDis eqDis agDir agObj eqItm agBal eqBal Try.underlying3 Try.underlying5 Try.underlying34 Try.underlying9 Try.underlying4
def isFin (a b : PartyD) (want : Int) : Prop := ∃ l : List DealD, l.length ≤ 10 ∧ a = finP false l ∧ b = finP true l ∧ want = wantS l - grtS l
noncomputable abbrev SBld : List V → Option V := FT fun (t : PartyD × PartyD × Int × Unit) => open Classical in if isFin t.1 t.2.1 t.2.2.1 then some true else none
theorem okBl_fin (w : Bool) {l : List DealD} (hl : l.length ≤ 10) : okBl (finP w l).cdrs (finP w l).disputes ⟨#[65]⟩ ⟨#[66]⟩ ⟨#[69, 85, 82]⟩ ⟨0, 268435456⟩ := by
  have s1 := sumV_in false l
  have s2 := sumV_in true l
  exact ⟨fin_oko w false hl, ⟨_, owed_fin (w := w) (u := false) hl, by omega, by omega⟩, ⟨_, owed_fin (w := w) (u := true) hl, by omega, by omega⟩⟩
theorem con11 {Φ : Specs} (hg : Idl.Good Try.prog Φ) (h30 : Φ 30 = some SBlc) : Contract Try.prog 11 SBld := by
  refine conT hg k11 ic11 (by decide) fun C t r h => ?_
  obtain ⟨a, b, want, u⟩ := t
  dsimp only at h
  split at h
  case isFalse => cases h
  rename_i hz
  cases h
  obtain ⟨l, hl, ha, hb, hw⟩ := hz
  have B1 : okBl a.cdrs a.disputes ⟨#[65]⟩ ⟨#[66]⟩ ⟨#[69, 85, 82]⟩ ⟨0, 268435456⟩ := by rw [ha]; exact okBl_fin false hl
  have B2 : okBl b.cdrs b.disputes ⟨#[65]⟩ ⟨#[66]⟩ ⟨#[69, 85, 82]⟩ ⟨0, 268435456⟩ := by rw [hb]; exact okBl_fin true hl
  have o1 : owedO a.cdrs a.disputes ⟨#[65]⟩ ⟨#[66]⟩ ⟨#[69, 85, 82]⟩ ⟨0, 268435456⟩ = (sumV false l, 0) := by rw [ha]; exact owed_fin (w := false) (u := false) hl
  have o2 : owedO a.cdrs a.disputes ⟨#[66]⟩ ⟨#[65]⟩ ⟨#[69, 85, 82]⟩ ⟨0, 268435456⟩ = (sumV true l, 0) := by rw [ha]; exact owed_fin (w := false) (u := true) hl
  have o3 : owedO b.cdrs b.disputes ⟨#[65]⟩ ⟨#[66]⟩ ⟨#[69, 85, 82]⟩ ⟨0, 268435456⟩ = (sumV false l, 0) := by rw [hb]; exact owed_fin (w := true) (u := false) hl
  have o4 : owedO b.cdrs b.disputes ⟨#[66]⟩ ⟨#[65]⟩ ⟨#[69, 85, 82]⟩ ⟨0, 268435456⟩ = (sumV true l, 0) := by rw [hb]; exact owed_fin (w := true) (u := true) hl
  have hs := sums_eq l
  have s1 := sumV_in false l
  have s2 := sumV_in true l
  rw [← hw] at hs
  clear ha hb hw
  obtain ⟨x, hx⟩ : ∃ x, x = sumV false l := ⟨_, rfl⟩
  obtain ⟨y, hy⟩ : ∃ y, y = sumV true l := ⟨_, rfl⟩
  rw [← hx] at o1 o3 s1 hs
  rw [← hy] at o2 o4 s2 hs
  have hne : decide ((⟨#[65]⟩ : ByteArray) = ⟨#[66]⟩) = false := by decide
  have hlt : ltS (⟨#[66]⟩ : ByteArray) ⟨#[65]⟩ = false := by decide +kernel
  by_cases hxy : x < y
  · have e0 : balO ⟨#[65]⟩ ⟨#[66]⟩ ⟨#[69, 85, 82]⟩ x y = (⟨⟨#[66]⟩, ⟨#[65]⟩, ⟨#[69, 85, 82]⟩, y - x⟩, 0) := by rw [balO, decide_eq_true hxy, Bool.true_or, cond_true]
    have w1 : IntKind.i64.wrap (0 - want) = y - x := by rw [IntKind.wrap_i64]; omega
    simp +contextual only [go_sem, ↓reduceIte, Nat.reduceEqDiff, Nat.reduceAdd, Nat.reduceLeDiff, Nat.reduceLT, reduceCtorEq, c11, k11, h30, B1, B2, o1, o2, o3, o4, e0, w1, hne, bne_self_eq_false, beq_self_eq_true]
  · have e0 : balO ⟨#[65]⟩ ⟨#[66]⟩ ⟨#[69, 85, 82]⟩ x y = (⟨⟨#[65]⟩, ⟨#[66]⟩, ⟨#[69, 85, 82]⟩, x - y⟩, 0) := by rw [balO, decide_eq_false hxy, hlt, Bool.and_false, Bool.or_false, cond_false]
    have w1 : x - y = want := hs
    simp +contextual only [go_sem, ↓reduceIte, Nat.reduceEqDiff, Nat.reduceAdd, Nat.reduceLeDiff, Nat.reduceLT, reduceCtorEq, c11, k11, h30, B1, B2, o1, o2, o3, o4, e0, w1, hne, bne_self_eq_false, beq_self_eq_true]
end Go.Proofs.Ytalhbhbkdfmhgaa
