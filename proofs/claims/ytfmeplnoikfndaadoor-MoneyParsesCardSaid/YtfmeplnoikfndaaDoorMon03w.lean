/- Amounts: the laws on rounded quotients, parts and texts. -/
import Derived.Test.YtfmeplnoikfndaaDoorMon03x
import Derived.Test.YtfmeplnoikfndaaDoorMon03q
namespace Go.Proofs.YtfmeplnoikfndaaDoor
set_option linter.all false
open Go.Idl Go.Lib
set_option linter.all false
set_option maxHeartbeats 16000000
set_option maxRecDepth 100000
attribute [local go_sem] Tryd.underlying3 Tryd.underlying45 Tryd.underlying74 Tryd.underlying5 Tryd.underlying9 Tryd.underlying4 Tryd.underlying22
theorem n21 : ((21 : Int) != 0) = true := by decide
theorem n5 : ((5 : Int) != 0) = true := by decide
theorem con3 {Φ : Specs} (hg : Idl.Good Tryd.prog Φ) (h11 : Φ 11 = some SRound) (h12 : Φ 12 = some SRound) (h13 : Φ 13 = some Aw) :
    Contract Tryd.prog 3 (FT fun (t : Int × Int × Int × Unit) => if inI t.1 ∧ inI t.2.1 then some true else none) := by
  refine conT hg k3 ic3 (by decide) fun C t r h => ?_
  obtain ⟨n, d, m, u⟩ := t
  dsimp only at h
  split at h
  case isFalse => cases h
  rename_i hn
  cases h
  obtain ⟨h1, h2⟩ := hn
  simp +contextual only [go_sem, ↓reduceIte, Nat.reduceEqDiff, Nat.reduceAdd, Nat.reduceLeDiff, Nat.reduceLT, reduceCtorEq, c3, k3, h11, h12, h13, h1, h2, and_self, eq_self]
theorem con7 {Φ : Specs} (hg : Idl.Good Tryd.prog Φ) (h18 : Φ 18 = some SSplit) (h19 : Φ 19 = some SSplit) (h20 : Φ 20 = some SSame) (h13 : Φ 13 = some Aw) :
    Contract Tryd.prog 7 (FT fun (t : Int × List Int × Unit) => if t.2.1.length ≤ 9223372036854775807 ∧ ∀ n, n ∈ t.2.1 → inI n then some true else none) := by
  refine conT hg k7 ic7 (by decide) fun C t r h => ?_
  obtain ⟨a, l, u⟩ := t
  dsimp only at h
  split at h
  case isFalse => cases h
  rename_i hn
  cases h
  obtain ⟨h1, h2⟩ := hn
  by_cases hl : 520 < l.length
  · have t1 : decide ((l.length : Int) > 520) = true := by simp; omega
    simp +contextual only [go_sem, ↓reduceIte, Nat.reduceEqDiff, Nat.reduceAdd, Nat.reduceLeDiff, Nat.reduceLT, reduceCtorEq, c7, k7, List.length_map, t1, h13]
    try rfl
  have t1 : decide ((l.length : Int) > 520) = false := by simp; omega
  have hn : l.length ≤ 1000000 ∧ ∀ n, n ∈ l → inI n := ⟨by omega, h2⟩
  have hk : (splitS a l).1.length ≤ 9223372036854775807 := by
    have : (splitS a l).1 = [] ∨ (splitS a l).1 = partsS a l := by
      unfold splitS
      split
      · exact .inl rfl
      · split
        · exact .inl rfl
        · split
          · exact .inl rfl
          · split
            · exact .inl rfl
            · exact .inr rfl
    rcases this with e | e
    · rw [e]; simp
    · rw [e]; simp [partsS]; omega
  simp +contextual only [go_sem, ↓reduceIte, Nat.reduceEqDiff, Nat.reduceAdd, Nat.reduceLeDiff, Nat.reduceLT, reduceCtorEq, c7, k7, List.length_map, t1, h18, h19, h20, h13, hn, hk, and_self, eq_self]
theorem con9 {Φ : Specs} (hg : Idl.Good Tryd.prog Φ) (h21 : Φ 21 = some SFmt) (h22 : Φ 22 = some SFmt) (h23 : Φ 23 = some SParse) (h13 : Φ 13 = some Aw) :
    Contract Tryd.prog 9 (FT fun (t : Int × ByteArray × Unit) => if inI t.1 ∧ t.2.1.size ≤ 9223372036854775807 then some true else none) := by
  refine conT hg k9 ic9 (by decide) fun C t r h => ?_
  obtain ⟨a, c, u⟩ := t
  dsimp only at h
  split at h
  case isFalse => cases h
  rename_i hn
  cases h
  obtain ⟨h1, h2⟩ := hn
  by_cases hl : 8 < c.size
  · have t1 : decide ((c.size : Int) > 8) = true := by simp; omega
    simp +contextual only [go_sem, ↓reduceIte, Nat.reduceEqDiff, Nat.reduceAdd, Nat.reduceLeDiff, Nat.reduceLT, reduceCtorEq, c9, k9, t1, h13]
    try rfl
  have t1 : decide ((c.size : Int) > 8) = false := by simp; omega
  have hn : inI a ∧ c.size ≤ 1000000 := ⟨h1, by omega⟩
  cases hcur : curOk c.data.toList with
  | false =>
    have e1 : fmtP a c = (⟨#[]⟩, 21) := by unfold fmtP; rw [hcur, if_neg (by decide)]
    simp +contextual only [go_sem, ↓reduceIte, Nat.reduceEqDiff, Nat.reduceAdd, Nat.reduceLeDiff, Nat.reduceLT, reduceCtorEq, c9, k9, t1, h21, h22, h13, hn, e1, eq_self, ne_self, n21]
    try rfl
  | true =>
    have e1 : fmtP a c = (bs (fmtL a c.data.toList), 0) := by unfold fmtP; rw [hcur, if_pos rfl]
    obtain ⟨f1, f2, f3, f4⟩ := fmt_len hcur h1.1 h1.2
    have hsg : (sgn a).length ≤ 1 := by unfold sgn; split <;> simp
    have hz : (bs (fmtL a c.data.toList)).size ≤ 1000 := by rw [bs_size, f2]; omega
    have e2 : pRes (parseP (bs (fmtL a c.data.toList)).data.toList) = (a, c, 0) := by rw [bs_data, parseP_fmt hcur h1.1 h1.2]; rfl
    simp +contextual only [go_sem, ↓reduceIte, Nat.reduceEqDiff, Nat.reduceAdd, Nat.reduceLeDiff, Nat.reduceLT, reduceCtorEq, c9, k9, t1, h21, h22, h23, h13, hn, e1, e2, hz, eq_self, ne_self]
    try rfl
theorem con10 {Φ : Specs} (hg : Idl.Good Tryd.prog Φ) (h23 : Φ 23 = some SParse) (h24 : Φ 24 = some (FT fun (t : ByteArray × Unit) => if t.1.size ≤ 1000 then some (pRes (parseR t.1.data.toList)) else none)) (h21 : Φ 21 = some SFmt) (h13 : Φ 13 = some Aw) :
    Contract Tryd.prog 10 (FT fun (t : ByteArray × Unit) => if t.1.size ≤ 9223372036854775807 then some true else none) := by
  refine conT hg k10 ic10 (by decide) fun C t r h => ?_
  obtain ⟨s, u⟩ := t
  dsimp only at h
  split at h
  case isFalse => cases h
  rename_i h2
  cases h
  by_cases hl : 40 < s.size
  · have t1 : decide ((s.size : Int) > 40) = true := by simp; omega
    simp +contextual only [go_sem, ↓reduceIte, Nat.reduceEqDiff, Nat.reduceAdd, Nat.reduceLeDiff, Nat.reduceLT, reduceCtorEq, c10, k10, t1, h13]
    try rfl
  have t1 : decide ((s.size : Int) > 40) = false := by simp; omega
  have hn : s.size ≤ 1000 := by omega
  have e0 := parse_eq s.data.toList
  by_cases hp : parseP s.data.toList = (0, [], 5)
  · have e1 : pRes (parseP s.data.toList) = (0, ⟨#[]⟩, 5) := by rw [hp]; rfl
    simp +contextual only [go_sem, ↓reduceIte, Nat.reduceEqDiff, Nat.reduceAdd, Nat.reduceLeDiff, Nat.reduceLT, reduceCtorEq, c10, k10, t1, h23, h24, h13, hn, ← e0, e1, eq_self, ne_self, n5]
    try rfl
  · obtain ⟨n, c, i0, i1, hcur, hs⟩ := parseP_ok hp
    have e1 : pRes (parseP s.data.toList) = (n, bs c, 0) := by rw [hs, parseP_fmt hcur i0 i1]; rfl
    have hi : inI n ∧ (bs c).size ≤ 1000000 := ⟨⟨i0, i1⟩, by rw [bs_size, (fmt_len hcur i0 i1).1]; omega⟩
    have e2 : fmtP n (bs c) = (s, 0) := by
      unfold fmtP
      rw [bs_data, if_pos hcur, ← hs]; rfl
    simp +contextual only [go_sem, ↓reduceIte, Nat.reduceEqDiff, Nat.reduceAdd, Nat.reduceLeDiff, Nat.reduceLT, reduceCtorEq, c10, k10, t1, h23, h24, h21, h13, hn, ← e0, e1, e2, hi, eq_self, ne_self]
    try rfl
end Go.Proofs.YtfmeplnoikfndaaDoor
