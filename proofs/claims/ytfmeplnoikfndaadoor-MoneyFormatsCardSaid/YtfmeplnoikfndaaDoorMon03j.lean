/- Amounts: the text of amounts in the reference; lists that are the same. -/
import Derived.Test.YtfmeplnoikfndaaDoorMon03i
namespace Go.Proofs.YtfmeplnoikfndaaDoor
set_option linter.all false
open Go.Idl Go.Lib
set_option linter.all false
set_option maxHeartbeats 8000000
set_option maxRecDepth 100000
attribute [local go_sem] Tryd.underlying3 Tryd.underlying45 Tryd.underlying74 Tryd.underlying5 Tryd.underlying9 Tryd.underlying4 Tryd.underlying22
def fmtP (n : Int) (c : ByteArray) : ByteArray × Int := if curOk c.data.toList = true then (bs (fmtL n c.data.toList), 0) else (⟨#[]⟩, 21)
abbrev SFmt : List V → Option V := FT fun (t : Int × ByteArray × Unit) => if inI t.1 ∧ t.2.1.size ≤ 1000000 then some (fmtP t.1 t.2.1) else none
theorem lit (l : List UInt8) (a : Array UInt8) (h : a = l.toArray) : (⟨a⟩ : ByteArray) = bs l := by rw [h]; rfl
theorem dec_1000 {r : Nat} (h : r < 1000) : decDigits (r + 1000) = [49, dgt (r / 100), dgt (r / 10 % 10), dgt (r % 10)] := by
  rw [dec_step, if_neg (by omega), dec_step ((r + 1000) / 10), if_neg (by omega), dec_step ((r + 1000) / 10 / 10), if_neg (by omega), dec_step ((r + 1000) / 10 / 10 / 10), if_pos (by omega)]
  have e1 : (r + 1000) / 10 / 10 / 10 = 1 := by omega
  have e2 : (r + 1000) / 10 / 10 % 10 = r / 100 := by omega
  have e3 : (r + 1000) / 10 % 10 = r / 10 % 10 := by omega
  have e4 : (r + 1000) % 10 = r % 10 := by omega
  rw [e1, e2, e3, e4]
  rfl
theorem cur_len {c : List UInt8} (h : curOk c = true) : c.length = 3 := by
  rw [curOk, Bool.and_eq_true, decide_eq_true_eq] at h; exact h.2
theorem sz_ok {a b : List UInt8} (h : a.length + b.length ≤ 1000) : (((bs a).size + (bs b).size : Nat) : Int) ≤ IntKind.i64.max := by
  rw [bs_size, bs_size]
  have : IntKind.i64.max = 9223372036854775807 := rfl
  omega
theorem con22 {Φ : Specs} (hg : Idl.Good Tryd.prog Φ) (h41 : Φ 41 = some SCur) (h31 : Φ 31 = some SMag) (h42 : Φ 42 = some SDig) : Contract Tryd.prog 22 SFmt := by
  refine conT hg k22 ic22 (by decide) fun C t r h => ?_
  obtain ⟨n, c, u⟩ := t
  dsimp only at h
  split at h
  case isFalse => cases h
  rename_i hn
  cases h
  obtain ⟨hn, hc⟩ := hn
  obtain ⟨cl, rfl⟩ : ∃ cl, c = bs cl := ⟨_, (bs_of c).symm⟩
  have hc2 : (bs cl).size ≤ 9223372036854775807 := by omega
  unfold fmtP
  rw [bs_data]
  cases hcur : curOk cl with
  | false =>
    rw [if_neg (by decide)]
    simp +contextual only [go_sem, ↓reduceIte, Nat.reduceEqDiff, Nat.reduceAdd, Nat.reduceLeDiff, Nat.reduceLT, reduceCtorEq, c22, k22, h41, hc2, bs_data, hcur]
  | true =>
    rw [if_pos rfl]
    have hcl := cur_len hcur
    have hN : n.natAbs < 18446744073709551616 := by unfold inI at hn; omega
    obtain ⟨m, hm⟩ : ∃ m, m = n.natAbs := ⟨_, rfl⟩
    rw [← hm] at hN
    have w1 : IntKind.u64.wrap (((m % 1000 : Nat) : Int) + 1000) = ((m % 1000 + 1000 : Nat) : Int) := by rw [IntKind.wrap_u64]; omega
    have q1 : m / 1000 % 18446744073709551616 = m / 1000 := by omega
    have l1 : m % 1000 + 1000 < 18446744073709551616 := by omega
    have l2 : m / 1000 < 18446744073709551616 := by omega
    have d1 := dec_1000 (r := m % 1000) (by omega)
    have hdl := dec_len20 l2
    generalize hx : dgt (m % 1000 / 100) = a at *
    generalize hy : dgt (m % 1000 / 10 % 10) = b at *
    generalize hz : dgt (m % 1000 % 10) = c at *
    have x1 : (bs [49, a, b, c]).extract 1 4 = bs [a, b, c] := by rw [bs_cut]; rfl
    have x3 : ((bs [49, a, b, c]).size) = 4 := by rw [bs_size]; rfl
    have b1 := lit [46] #[46] rfl
    have b2 := lit [32] #[32] rfl
    have b3 := lit [45] #[45] rfl
    have fin : fmtL n cl = sgn n ++ ((((decDigits (m / 1000) ++ [46]) ++ [a, b, c]) ++ [32]) ++ cl) := by
      rw [fmtL, fmtM, ← hm, hx, hy, hz]; simp
    rw [fin]
    generalize hD : decDigits (m / 1000) = D at *
    have s1 := sz_ok (a := D) (b := [46]) (by simp; omega)
    have s2 := sz_ok (a := D ++ [46]) (b := [a, b, c]) (by simp; omega)
    have s3 := sz_ok (a := (D ++ [46]) ++ [a, b, c]) (b := [32]) (by simp; omega)
    have s4 := sz_ok (a := ((D ++ [46]) ++ [a, b, c]) ++ [32]) (b := cl) (by simp; omega)
    have s5 := sz_ok (a := [45]) (b := (((D ++ [46]) ++ [a, b, c]) ++ [32]) ++ cl) (by simp; omega)
    generalize hA : D ++ [46] = A1 at *
    generalize hB : A1 ++ [a, b, c] = A2 at *
    generalize hE : A2 ++ [32] = A3 at *
    generalize hF : A3 ++ cl = A4 at *
    have r1 : (1 : Int) ≤ ((4 : Nat) : Int) := by decide
    have r2 : ((4 : Nat) : Int).toNat = 4 := rfl
    have r3 : (1 : Int).toNat = 1 := rfl
    have r4 : (0 : Int) ≤ 1 := by decide
    by_cases h0 : n < 0
    · have t1 := decide_eq_true h0
      unfold sgn
      rw [if_pos h0]
      simp +contextual only [go_sem, ↓reduceIte, Nat.reduceEqDiff, Nat.reduceAdd, Nat.reduceLeDiff, Nat.reduceLT, reduceCtorEq, c22, k22, h41, h31, h42, hc2, bs_data, hcur, hn, inU, ← hm, w1, q1, l1, l2, hD, d1, x1, x3, r1, r2, r3, r4, b1, b2, b3, s1, s2, s3, s4, s5, bs_app, hA, hB, hE, hF, t1, Int.le_refl]
      rfl
    · have t1 := decide_eq_false h0
      unfold sgn
      rw [if_neg h0]
      simp +contextual only [go_sem, ↓reduceIte, Nat.reduceEqDiff, Nat.reduceAdd, Nat.reduceLeDiff, Nat.reduceLT, reduceCtorEq, c22, k22, h41, h31, h42, hc2, bs_data, hcur, hn, inU, ← hm, w1, q1, l1, l2, hD, d1, x1, x3, r1, r2, r3, r4, b1, b2, b3, s1, s2, s3, s4, s5, bs_app, hA, hB, hE, hF, t1, Int.le_refl]
      rfl
abbrev SSame : List V → Option V := FT fun (t : List Int × List Int × Unit) => if t.1.length ≤ 9223372036854775807 then some (decide (t.1 = t.2.1)) else none
theorem con20 {Φ : Specs} (hg : Idl.Good Tryd.prog Φ) : Contract Tryd.prog 20 SSame := by
  refine conT hg k20 ic20 (by decide) fun C t r h => ?_
  obtain ⟨a, b, u⟩ := t
  dsimp only at h
  split at h
  case isFalse => cases h
  rename_i hn
  cases h
  simp +contextual only [go_sem, ↓reduceIte, Nat.reduceEqDiff, Nat.reduceAdd, Nat.reduceLeDiff, Nat.reduceLT, reduceCtorEq, c20, k20, List.length_map]
  refine ⟨fun h => ?_, fun h => ?_⟩
  · have : ¬ a = b := fun e => by subst e; simp at h
    simp [this]
  · have hl : a.length = b.length := by simp at h; omega
    refine TriI.loopL hg k20 a (fun i (_ : Unit) => ⟨slotsL [(0, Cod.enc a), (1, Cod.enc b), (5, .sc (.int .i64 i))], objsL [], 0⟩) (fun xs _ => (a = b ↔ xs = b.drop (a.length - xs.length))) () (.back rfl ?_) (by simp) ?_ ?_
    · simp +contextual only [go_sem, ↓reduceIte, Nat.reduceEqDiff, Nat.reduceAdd, Nat.reduceLeDiff, Nat.reduceLT, reduceCtorEq]
      rfl
    · intro _ hinv
      simp +contextual only [go_sem, ↓reduceIte, Nat.reduceEqDiff, Nat.reduceAdd, Nat.reduceLeDiff, Nat.reduceLT, reduceCtorEq, k20, List.length_map, Int.lt_irrefl, decide_false]
      have : a = b := hinv.2 (by simp [hl])
      simp [this]
    · intro i _ x xs hd hlt hx hinv
      have hw := wrap_nat hlt (by omega)
      have hlt2 : i < b.length := by omega
      obtain ⟨y, hy⟩ : ∃ y, b[i]? = some y := ⟨b[i], by simp [hlt2]⟩
      have hxl : xs.length = a.length - (i + 1) := by
        have := congrArg List.length hd
        simp at this; omega
      have e1 : a.length - (x :: xs).length = i := by simp; omega
      have e2 : a.length - xs.length = i + 1 := by omega
      have hbd : b.drop i = y :: b.drop (i + 1) := by
        have : b[i] = y := by simpa [hlt2] using hy
        rw [List.drop_eq_getElem_cons hlt2, this]
      rw [e1, hbd] at hinv
      simp +contextual only [go_sem, ↓reduceIte, Nat.reduceEqDiff, Nat.reduceAdd, Nat.reduceLeDiff, Nat.reduceLT, reduceCtorEq, k20, List.length_map, lt_dec hlt, hx, hy, List.getElem?_map, Option.map_some, Int.natCast_nonneg, Int.toNat_natCast]
      refine ⟨rfl, fun h => ?_, fun h => ⟨(), ?_, .back rfl ?_⟩⟩
      · have : ¬ a = b := fun e => by
          have := hinv.1 e
          simp at this
          simp [this.1] at h
        simp [this]
      · dsimp only
        rw [hinv, e2]
        have : x = y := by simpa using h
        simp [this]
      · simp +contextual only [go_sem, ↓reduceIte, Nat.reduceEqDiff, Nat.reduceAdd, Nat.reduceLeDiff, Nat.reduceLT, reduceCtorEq, hw]
end Go.Proofs.YtfmeplnoikfndaaDoor
