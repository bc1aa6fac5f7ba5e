/- Sessions and their records. -/
import Derived.Test.YtalhbhbkdfmhgaaPla25f
namespace Go.Proofs.Ytalhbhbkdfmhgaa
set_option linter.all false
open Go.Idl
set_option linter.all false
set_option maxHeartbeats 16000000
set_option maxRecDepth 100000
attribute [local go_sem] agPty agCdr agDis eqDis agDir agObj eqItm agBal Try.underlying3 Try.underlying5 Try.underlying34 Try.underlying9 Try.underlying4
theorem bs_cat (a b : List UInt8) : (⟨a.toArray⟩ : ByteArray) ++ ⟨b.toArray⟩ = ⟨(a ++ b).toArray⟩ := by
  apply ByteArray.ext
  rw [ByteArray.data_append]
  simp
theorem news_one {H : Heap} {id len : Nat} {ys : List V} {mu : Bool} (hH : H id = .live 1 ys mu) (hl : ys.length = len) : news H 1 (.own id 0 len) = some ys := by
  rw [news_own, hH, elemsO_live, if_pos ⟨rfl, by omega⟩, List.drop_zero, List.take_of_length_le (by omega)]
abbrev SDlt : List V → Option V := FT fun (t : Int × DealD × Unit) => if 0 ≤ t.1 ∧ t.1 < 10 then some (recD t.1.toNat t.2.1) else none
theorem con5 {Φ : Specs} (hg : Idl.Good Try.prog Φ) : Contract Try.prog 5 SDlt := by
  refine conT hg k5 ic5 (by decide) fun C t r h => ?_
  obtain ⟨z, ⟨bk, nt, cl, gr, cr⟩, u⟩ := t
  dsimp only at h
  split at h
  case isFalse => cases h
  rename_i hz
  cases h
  obtain ⟨i, rfl⟩ : ∃ i : Nat, z = i := ⟨z.toNat, by omega⟩
  have hi : i < 10 := by omega
  have n0 : 0 ≤ nt.val := nt.2.1
  have n1 : nt.val ≤ 65535 := nt.2.2
  have w1 : IntKind.i64.wrap nt.val = nt.val := by rw [IntKind.wrap_i64]; omega
  have w2 : IntKind.i64.wrap (48 + (i : Int)) = ((48 + i : Nat) : Int) := by rw [IntKind.wrap_i64]; omega
  have w3 : IntKind.u8.wrap ((48 + i : Nat) : Int) = ((48 + i : Nat) : Int) := by simp [IntKind.wrap, IntKind.bits, IntKind.signed]; omega
  have w4 : IntKind.i64.wrap ((i : Int) + 30) = (i : Int) + 30 := by rw [IntKind.wrap_i64]; omega
  have s1 : strOf [((48 + i : Nat) : Int)] = ⟨#[sdig i]⟩ := rfl
  have s2 : (⟨#[99]⟩ : ByteArray) ++ ⟨#[sdig i]⟩ = cId i := bs_cat [99] [sdig i]
  have s3 : (⟨#[83, 45]⟩ : ByteArray) ++ ⟨#[sdig i]⟩ = sId i := bs_cat [83, 45] [sdig i]
  have z1 : (((⟨#[99]⟩ : ByteArray).size + (⟨#[sdig i]⟩ : ByteArray).size : Nat) : Int) ≤ IntKind.i64.max := by show ((2 : Nat) : Int) ≤ _; decide
  have z2 : (((⟨#[83, 45]⟩ : ByteArray).size + (⟨#[sdig i]⟩ : ByteArray).size : Nat) : Int) ≤ IntKind.i64.max := by show ((3 : Nat) : Int) ≤ _; decide
  rw [Int.toNat_natCast]
  simp +contextual only [go_sem, ↓reduceIte, Nat.reduceEqDiff, Nat.reduceAdd, Nat.reduceLeDiff, Nat.reduceLT, reduceCtorEq, c5, k5, w1, w2, w3, w4]
  refine stepI_bytes (e := 5) Try.underlying54 Try.underlying5 Try.underlying9 rfl (by exact news_one rfl rfl) (show bytV [V.sc (.int .u8 ((48 + i : Nat) : Int))] = some [((48 + i : Nat) : Int)] from rfl) (conv_none rfl) ?_
  simp +contextual only [go_sem, ↓reduceIte, Nat.reduceEqDiff, Nat.reduceAdd, Nat.reduceLeDiff, Nat.reduceLT, reduceCtorEq, k5, w1, w2, w3, w4, s1, s2, z1]
  refine stepI_bytes (e := 5) Try.underlying54 Try.underlying5 Try.underlying9 rfl (by exact news_one rfl rfl) (show bytV [V.sc (.int .u8 ((48 + i : Nat) : Int))] = some [((48 + i : Nat) : Int)] from rfl) (conv_none rfl) ?_
  simp +contextual only [go_sem, ↓reduceIte, Nat.reduceEqDiff, Nat.reduceAdd, Nat.reduceLeDiff, Nat.reduceLT, reduceCtorEq, k5, w1, w2, w3, w4, s1, s3, z2]
  exact ⟨fun _ => rfl, fun _ => rfl⟩
end Go.Proofs.Ytalhbhbkdfmhgaa
