/- Transactions: digits, beginning. -/
import Derived.Test.YtfinfdbbndcomaaDoorTxn34
namespace Go.Proofs.YtfinfdbbndcomaaDoor
set_option linter.all false
open Go.Idl
set_option maxHeartbeats 4000000
set_option maxRecDepth 100000
attribute [local go_sem] Tryd.underlying3 Tryd.underlying5 Tryd.underlying9 Tryd.underlying4 agTxn agEv Tryd.underlying67
theorem ba_data {a b : ByteArray} (h : a.data = b.data) : a = b := by cases a; cases b; cases h; rfl
theorem cat_one (n : Int) (bs : List UInt8) : strOf [n] ++ (⟨bs.toArray⟩ : ByteArray) = ⟨(UInt8.ofNat n.toNat :: bs).toArray⟩ := by
  apply ba_data
  rw [ByteArray.data_append]
  simp [strOf, ByteArray.push, ByteArray.empty, ByteArray.emptyWithCapacity]; rfl
abbrev SDig : List V → Option V := FT fun (t : Int × Unit) => if 0 ≤ t.1 ∧ t.1 ≤ 2147483647 then some (numS t.1) else none
theorem con28 {Φ : Specs} (hg : Idl.Good Tryd.prog Φ) : Contract Tryd.prog 28 SDig := by
  refine conT hg k28 ic28 (by decide) fun C t r h => ?_
  obtain ⟨n, u⟩ := t
  dsimp only at h
  split at h
  · rename_i hn
    cases h
    obtain ⟨n, rfl⟩ := Int.eq_ofNat_of_zero_le hn.1
    simp +contextual only [go_sem, ↓reduceIte, Nat.reduceEqDiff, Nat.reduceAdd, Nat.reduceLeDiff, Nat.reduceLT, reduceCtorEq, c28, k28]
    refine TriI.loopA hg k28 (fun q : Nat × List UInt8 => ⟨slotsL [(0, .sc (.int .i64 (q.1 : Nat))), (3, .sc (.string ⟨q.2.toArray⟩))], objsL [], 0⟩) (fun q => q.1 ≤ 2147483647 ∧ ∃ f, q.1 < 10 ^ (f + 1) ∧ dg 10 n = dg (f + 1) q.1 ++ q.2) (fun q => q.1) (n, []) (.back rfl ?_) ⟨by dsimp only; omega, 9, by dsimp only; omega, by simp⟩ ?_
    · simp +contextual only [go_sem, ↓reduceIte, Nat.reduceEqDiff, Nat.reduceAdd, Nat.reduceLeDiff, Nat.reduceLT, reduceCtorEq]
    · rintro ⟨m, bs⟩ ⟨hm2, f, h1, h2⟩
      dsimp only at hm2 h1 h2 ⊢
      have hlen : bs.length ≤ 10 := by
        have h3 := congrArg List.length h2
        have h4 := dg_len 10 n
        rw [List.length_append] at h3; omega
      have hsz : ∀ x : Int, (((strOf [x]).size + (⟨bs.toArray⟩ : ByteArray).size : Nat) : Int) ≤ IntKind.i64.max := fun x => by
        have e1 : (strOf [x]).size = 1 := rfl
        have e2 : (⟨bs.toArray⟩ : ByteArray).size = bs.length := by simp [ByteArray.size]
        have e3 : IntKind.i64.max = 9223372036854775807 := rfl
        omega
      by_cases hm : m > 9
      · have hd : decide ((m : Int) > 9) = true := by simp; omega
        have q0 : (10 : Int) ≠ 0 := by decide
        have q1 : (m : Int).tmod 10 = ((m % 10 : Nat) : Int) := by rw [Int.tmod_eq_emod_of_nonneg (by omega)]; rfl
        have q2 : (m : Int).tdiv 10 = ((m / 10 : Nat) : Int) := by rw [Int.tdiv_eq_ediv_of_nonneg (by omega)]; rfl
        have q3 : IntKind.i64.wrap (48 + ((m % 10 : Nat) : Int)) = ((48 + m % 10 : Nat) : Int) := by rw [IntKind.wrap_i64]; omega
        have q4 : IntKind.u8.wrap ((48 + m % 10 : Nat) : Int) = ((48 + m % 10 : Nat) : Int) := by simp [IntKind.wrap, IntKind.bits, IntKind.signed]; omega
        have q5 : IntKind.i64.wrap ((m / 10 : Nat) : Int) = ((m / 10 : Nat) : Int) := by rw [IntKind.wrap_i64]; omega
        simp +contextual only [go_sem, ↓reduceIte, Nat.reduceEqDiff, Nat.reduceAdd, Nat.reduceLeDiff, Nat.reduceLT, reduceCtorEq, k28, hd, q0, q1, q3, q4, ne_eq, not_false_eq_true]
        refine stepI_bytes (e := 5) (by kernel_rfl) Tryd.underlying5 Tryd.underlying9 rfl rfl rfl (conv_none rfl) ?_
        simp +contextual only [go_sem, ↓reduceIte, Nat.reduceEqDiff, Nat.reduceAdd, Nat.reduceLeDiff, Nat.reduceLT, reduceCtorEq, k28, hsz, cat_one, q0, q2, q5, ne_eq, not_false_eq_true]
        cases f with
        | zero => simp at h1; omega
        | succ f =>
          refine ⟨(m / 10, UInt8.ofNat (48 + m % 10) :: bs), by dsimp only; omega, ⟨by dsimp only; omega, f, ?_, ?_⟩, .back rfl ?_⟩
          · dsimp only; rw [Nat.pow_succ] at h1; omega
          · dsimp only
            rw [h2]
            conv => lhs; rw [dg, if_neg (by omega)]
            simp
          · simp +contextual only [go_sem, ↓reduceIte, Nat.reduceEqDiff, Nat.reduceAdd, Nat.reduceLeDiff, Nat.reduceLT, reduceCtorEq, Int.toNat_natCast]
      · have hd : decide ((m : Int) > 9) = false := by simp; omega
        have q3 : IntKind.i64.wrap (48 + (m : Int)) = ((48 + m : Nat) : Int) := by rw [IntKind.wrap_i64]; omega
        have q4 : IntKind.u8.wrap ((48 + m : Nat) : Int) = ((48 + m : Nat) : Int) := by simp [IntKind.wrap, IntKind.bits, IntKind.signed]; omega
        simp +contextual only [go_sem, ↓reduceIte, Nat.reduceEqDiff, Nat.reduceAdd, Nat.reduceLeDiff, Nat.reduceLT, reduceCtorEq, k28, hd, q3, q4]
        refine stepI_bytes (e := 5) (by kernel_rfl) Tryd.underlying5 Tryd.underlying9 rfl rfl rfl (conv_none rfl) ?_
        simp +contextual only [go_sem, ↓reduceIte, Nat.reduceEqDiff, Nat.reduceAdd, Nat.reduceLeDiff, Nat.reduceLT, reduceCtorEq, k28, hsz, cat_one]
        unfold numS
        simp only [Int.toNat_natCast]
        rw [h2, dg, if_pos (by omega)]
        rfl
  · cases h
def zT : TxnD := ⟨⟨#[]⟩, 0, ⟨#[]⟩, ⟨#[]⟩, 0, 0, false, ⟨0, 0⟩⟩
def zE : EvD := ⟨⟨#[]⟩, ⟨#[]⟩, 0, 0, 0, 0, ⟨#[]⟩, false, 0, []⟩
def idS (st : ByteArray) (n : Int) : ByteArray := st ++ ⟨#[45]⟩ ++ numS n
def begS (st : ByteArray) (n conn : Int) (k : TokD) (r : Rdg) (off : Bool) : TxnD × EvD × Int :=
  bif !okName st then (zT, zE, 4) else bif decide (n < 1) || decide (n > 2147483647) then (zT, zE, 2) else bif !okName (idS st n) then (zT, zE, 4) else bif decide (conn < 1) || decide (conn > 32) then (zT, zE, 2)
  else bif tokS k != 0 then (zT, zE, tokS k) else bif !rdgOk r then (zT, zE, 2)
  else (⟨idS st n, conn, k.id, k.group, r.time, 0, false, r⟩, ⟨st, idS st n, conn, 0, 1, r.time, k.id, off, 0, [r]⟩, 0)
abbrev SBeg : List V → Option V := FT fun (t : ByteArray × Int × Int × TokD × Rdg × Bool × Unit) => some (begS t.1 t.2.1 t.2.2.1 t.2.2.2.1 t.2.2.2.2.1 t.2.2.2.2.2.1)
theorem name_len {s : ByteArray} (h : okName s = true) : s.size ≤ 36 := by simp [okName] at h; exact h.2.1
theorem con12 {Φ : Specs} (hg : Idl.Good Tryd.prog Φ) (h21 : Φ 21 = some F21) (h22 : Φ 22 = some SPos) (h26 : Φ 26 = some STok) (h25 : Φ 25 = some Fitoa) (h27 : Φ 27 = none) : Contract Tryd.prog 12 SBeg := by
  refine conT hg k12 ic12 (by decide) fun C t r h => ?_
  obtain ⟨st, n, conn, k, r, off, u⟩ := t
  cases h
  cases ho : okName st with
  | false =>
    simp +contextual only [go_sem, ↓reduceIte, Nat.reduceEqDiff, Nat.reduceAdd, Nat.reduceLeDiff, Nat.reduceLT, reduceCtorEq, c12, k12, h21, F21, ho]
    simp only [begS, ho, Bool.not_false, cond_true]; rfl
  | true =>
    have hl := name_len ho
    have hnl := numS_len n
    have e3 : IntKind.i64.max = 9223372036854775807 := rfl
    have s1 : ((st.size + (⟨#[45]⟩ : ByteArray).size : Nat) : Int) ≤ IntKind.i64.max := by
      have : (⟨#[45]⟩ : ByteArray).size = 1 := rfl
      omega
    have s2 : (((st ++ ⟨#[45]⟩ : ByteArray).size + (numS n).size : Nat) : Int) ≤ IntKind.i64.max := by
      rw [ByteArray.size_append]
      have : (⟨#[45]⟩ : ByteArray).size = 1 := rfl
      omega
    cases hn : (decide (n < 1) || decide (n > 2147483647)) with
    | true =>
      simp +contextual only [go_sem, ↓reduceIte, Nat.reduceEqDiff, Nat.reduceAdd, Nat.reduceLeDiff, Nat.reduceLT, reduceCtorEq, c12, k12, h21, F21, ho, hn]
      simp only [begS, ho, hn, Bool.not_true, cond_true, cond_false]; rfl
    | false =>
      have hn1 : 0 ≤ n ∧ n ≤ 2147483647 := by simp at hn; omega
      simp +contextual only [go_sem, ↓reduceIte, Nat.reduceEqDiff, Nat.reduceAdd, Nat.reduceLeDiff, Nat.reduceLT, reduceCtorEq, c12, k12, h21, F21, ho, hn, hn1, h25, Fitoa, s1, s2, h26, h22, h27, and_self]
      have hB : begS st n conn k r off = bif !okName (st ++ ⟨#[45]⟩ ++ numS n) then (zT, zE, 4) else bif decide (conn < 1) || decide (conn > 32) then (zT, zE, 2) else bif tokS k != 0 then (zT, zE, tokS k) else bif !rdgOk r then (zT, zE, 2)
        else (⟨st ++ ⟨#[45]⟩ ++ numS n, conn, k.id, k.group, r.time, 0, false, r⟩, ⟨st, st ++ ⟨#[45]⟩ ++ numS n, conn, 0, 1, r.time, k.id, off, 0, [r]⟩, 0) := by
        simp only [begS, ho, hn, Bool.not_true, cond_false]; rfl
      refine ⟨fun h1 => by rw [hB, h1]; rfl, fun h1 => ⟨fun h2 => by rw [hB, h1, h2]; rfl, fun h2 => ⟨fun h3 => by rw [hB, h1, h2, h3]; rfl, fun h3 => ⟨fun h4 => by rw [hB, h1, h2, h3, h4]; rfl, fun h4 => ?_⟩⟩⟩⟩
      rw [h1, h2, h3, h4] at hB
      simp only [cond_false] at hB
      refine CallT.of_walk hg k27 ic27 (by simp) fun C' hlow => ?_
      simp +contextual only [go_sem, ↓reduceIte, Nat.reduceEqDiff, Nat.reduceAdd, Nat.reduceLeDiff, Nat.reduceLT, reduceCtorEq, c27, k27]
      exact ⟨rfl, rfl, hB.symm⟩
theorem con13 {Φ : Specs} (hg : Idl.Good Tryd.prog Φ) (h23 : Φ 23 = some F21) (h24 : Φ 24 = some SPos) (h29 : Φ 29 = some STok) (h28 : Φ 28 = some SDig) : Contract Tryd.prog 13 SBeg := by
  refine conT hg k13 ic13 (by decide) fun C t r h => ?_
  obtain ⟨st, n, conn, k, r, off, u⟩ := t
  cases h
  cases ho : okName st with
  | false =>
    simp +contextual only [go_sem, ↓reduceIte, Nat.reduceEqDiff, Nat.reduceAdd, Nat.reduceLeDiff, Nat.reduceLT, reduceCtorEq, c13, k13, h23, F21, ho]
    simp only [begS, ho, Bool.not_false, cond_true]; rfl
  | true =>
    have hl := name_len ho
    have hnl := numS_len n
    have e3 : IntKind.i64.max = 9223372036854775807 := rfl
    have s1 : ((st.size + (⟨#[45]⟩ : ByteArray).size : Nat) : Int) ≤ IntKind.i64.max := by
      have : (⟨#[45]⟩ : ByteArray).size = 1 := rfl
      omega
    have s2 : (((st ++ ⟨#[45]⟩ : ByteArray).size + (numS n).size : Nat) : Int) ≤ IntKind.i64.max := by
      rw [ByteArray.size_append]
      have : (⟨#[45]⟩ : ByteArray).size = 1 := rfl
      omega
    cases hn : (decide (n < 1) || decide (n > 2147483647)) with
    | true =>
      simp +contextual only [go_sem, ↓reduceIte, Nat.reduceEqDiff, Nat.reduceAdd, Nat.reduceLeDiff, Nat.reduceLT, reduceCtorEq, c13, k13, h23, F21, ho, hn]
      simp only [begS, ho, hn, Bool.not_true, cond_true, cond_false]; rfl
    | false =>
      have hn1 : 0 ≤ n ∧ n ≤ 2147483647 := by simp at hn; omega
      simp +contextual only [go_sem, ↓reduceIte, Nat.reduceEqDiff, Nat.reduceAdd, Nat.reduceLeDiff, Nat.reduceLT, reduceCtorEq, c13, k13, h23, F21, ho, hn, hn1, h28, s1, s2, h29, h24, and_self]
      have hB : begS st n conn k r off = bif !okName (st ++ ⟨#[45]⟩ ++ numS n) then (zT, zE, 4) else bif decide (conn < 1) || decide (conn > 32) then (zT, zE, 2) else bif tokS k != 0 then (zT, zE, tokS k) else bif !rdgOk r then (zT, zE, 2)
        else (⟨st ++ ⟨#[45]⟩ ++ numS n, conn, k.id, k.group, r.time, 0, false, r⟩, ⟨st, st ++ ⟨#[45]⟩ ++ numS n, conn, 0, 1, r.time, k.id, off, 0, [r]⟩, 0) := by
        simp only [begS, ho, hn, Bool.not_true, cond_false]; rfl
      refine ⟨fun h1 => by rw [hB, h1]; rfl, fun h1 => ⟨fun h2 => by rw [hB, h1, h2]; rfl, fun h2 => ⟨fun h3 => by rw [hB, h1, h2, h3]; rfl, fun h3 => ⟨fun h4 => by rw [hB, h1, h2, h3, h4]; rfl, fun h4 => ?_⟩⟩⟩⟩
      rw [h1, h2, h3, h4] at hB
      simp only [cond_false] at hB
      exact ⟨rfl, hB.symm⟩
end Go.Proofs.YtfinfdbbndcomaaDoor
