/- Amounts: the chapter's examples. -/
import Derived.Test.YtfmeplnoikfndaaDoorMon03x
import Derived.Test.YtfmeplnoikfndaaDoorMon03q
namespace Go.Proofs.YtfmeplnoikfndaaDoor
set_option linter.all false
open Go.Idl Go.Lib
set_option linter.all false
set_option maxHeartbeats 16000000
set_option maxRecDepth 100000
attribute [local go_sem] Tryd.underlying3 Tryd.underlying45 Tryd.underlying74 Tryd.underlying5 Tryd.underlying9 Tryd.underlying4 Tryd.underlying22
theorem ex1 : scaleS (-5) 1 2 1 = (-3, 0) := by decide
theorem ex2 : scaleS 4611686018427387904 6 8 3 = (3458764513820540928, 0) := by decide
theorem ex3 : sumZ [9223372036854775807, 1, -1] = (9223372036854775807, 0) := by decide
theorem ex4 : splitS 10 [3, 0, 2, 2] = ([4, 0, 3, 3], 0) := by decide +kernel
theorem dec_one {n : Nat} (h : n < 10) : decDigits n = [dgt n] := by rw [dec_step, if_pos h]
theorem ex5 : fmtP (-1234) ⟨#[69, 85, 82]⟩ = (⟨#[45, 49, 46, 50, 51, 52, 32, 69, 85, 82]⟩, 0) := by
  have h : curOk [69, 85, 82] = true := by decide
  have e : fmtL (-1234) [69, 85, 82] = [45, 49, 46, 50, 51, 52, 32, 69, 85, 82] := by
    rw [fmtL, fmtM]
    show sgn (-1234) ++ (decDigits 1 ++ _ ++ _) = _
    rw [dec_one (by decide)]
    decide
  unfold fmtP
  show (if curOk [69, 85, 82] = true then (bs (fmtL (-1234) [69, 85, 82]), 0) else _) = _
  rw [if_pos h, e]
  rfl
theorem ex6 : pRes (parseP [48, 46, 48, 48, 55, 32, 85, 83, 68]) = (7, ⟨#[85, 83, 68]⟩, 0) := by
  have h : curOk [85, 83, 68] = true := by decide
  have e : fmtL 7 [85, 83, 68] = [48, 46, 48, 48, 55, 32, 85, 83, 68] := by
    rw [fmtL, fmtM]
    show sgn 7 ++ (decDigits 0 ++ _ ++ _) = _
    rw [dec_one (by decide)]
    decide
  rw [← e, parseP_fmt h (by decide) (by decide)]
  rfl
theorem con13 {Φ : Specs} (hg : Idl.Good Tryd.prog Φ) (h11 : Φ 11 = some SRound) (h14 : Φ 14 = some SScale) (h16 : Φ 16 = some SSum) (h18 : Φ 18 = some SSplit) (h21 : Φ 21 = some SFmt) (h23 : Φ 23 = some SParse) (h20 : Φ 20 = some SSame) : Contract Tryd.prog 13 Aw := by
  refine conT hg k13 ic13 (by decide) fun C t r h => ?_
  cases h
  have i1 : inI (-5) := by decide
  have i2 : inI 2 := by decide
  have i3 : inI 4611686018427387904 := by decide
  have i4 : inI 6 := by decide
  have i5 : inI 8 := by decide
  have i6 : inI (-1234) := by decide
  have i7 : inI 9223372036854775807 := by decide
  have i8 : inI 1 := by decide
  have i9 : inI (-1) := by decide
  have i10 : inI 3 := by decide
  have i11 : inI 0 := by decide
  have z1 : (⟨#[69, 85, 82]⟩ : ByteArray).size ≤ 1000000 := by decide
  have z2 : (⟨#[48, 46, 48, 48, 55, 32, 85, 83, 68]⟩ : ByteArray).size ≤ 1000 := by decide
  have z3 : (⟨#[48, 46, 48, 48, 55, 32, 85, 83, 68]⟩ : ByteArray).data.toList = [48, 46, 48, 48, 55, 32, 85, 83, 68] := rfl
  simp +contextual only [go_sem, ↓reduceIte, Nat.reduceEqDiff, Nat.reduceAdd, Nat.reduceLeDiff, Nat.reduceLT, reduceCtorEq, c13, k13, h11, h14, h16, h18, h21, h23, h20, i1, i2, i3, i4, i5, i6, ex1, ex2, ex3, ex4, ex5, ex6, and_self, i7, i8, i9, i10, i11, z1, z2, z3, List.forall_mem_cons, List.not_mem_nil, false_imp_iff, implies_true, true_and]
end Go.Proofs.YtfmeplnoikfndaaDoor
