/- Transactions: going on, ending. -/
import Derived.Test.YtfinfdbbndcomaaDoorTxn34b
namespace Go.Proofs.YtfinfdbbndcomaaDoor
set_option linter.all false
open Go.Idl
set_option maxHeartbeats 4000000
set_option maxRecDepth 100000
theorem eqRdg2 : eqInfo Tryd.prog 23 = some [.i .i64, .i .i64] := by kernel_rfl
attribute [local go_sem] Tryd.underlying3 Tryd.underlying5 Tryd.underlying9 Tryd.underlying4 agTxn agEv eqRdg2
def conS (t : TxnD) (st : ByteArray) (r : Rdg) : Int := bif txnS t != 0 then txnS t else bif !okName st then 4 else bif t.seq == 2147483647 then 3 else bif !rdgOk r then 2 else 0
abbrev SCon : List V → Option V := FT fun (t : TxnD × ByteArray × Rdg × Unit) => some (conS t.1 t.2.1 t.2.2.1)
theorem con34 {Φ : Specs} (hg : Idl.Good Tryd.prog Φ) (h10 : Φ 10 = some STxn) (h21 : Φ 21 = some F21) (h22 : Φ 22 = some SPos) : Contract Tryd.prog 34 SCon := by
  refine conT hg k34 ic34 (by decide) fun C t r h => ?_
  obtain ⟨t, st, r, u⟩ := t
  cases h
  simp +contextual only [go_sem, ↓reduceIte, Nat.reduceEqDiff, Nat.reduceAdd, Nat.reduceLeDiff, Nat.reduceLT, reduceCtorEq, c34, k34, h10, h21, F21, h22]
  (repeat' (first | apply And.intro | intro _)) <;> simp only [conS, *, cond_true, cond_false]
def nextE (t : TxnD) (st : ByteArray) (r : Rdg) (off : Bool) : EvD := ⟨st, t.id, t.conn, t.seq + 1, 0, r.time, ⟨#[]⟩, off, 0, [r]⟩
abbrev SNext : List V → Option V := FT fun (t : TxnD × ByteArray × Rdg × Bool × Unit) => some (bif conS t.1 t.2.1 t.2.2.1 != 0 then (zE, conS t.1 t.2.1 t.2.2.1) else (nextE t.1 t.2.1 t.2.2.1 t.2.2.2.1, 0))
theorem txn_seq {t : TxnD} (h : txnS t = 0) : 0 ≤ t.seq ∧ t.seq ≤ 2147483647 := by
  unfold txnS at h
  cases h1 : (!okName t.id || !okName t.token || (!decide (t.group = ⟨#[]⟩) && !okName t.group))
  · cases h2 : (decide (t.conn < 1) || decide (t.conn > 32) || decide (t.start < 0) || decide (t.start > 268435456) || decide (t.seq < 0) || decide (t.seq > 2147483647) || !rdgOk t.last || decide (t.last.time < t.start))
    · simp only [Bool.or_eq_false_iff, decide_eq_false_iff_not] at h2
      omega
    · simp [h1, h2] at h
  · simp [h1] at h
theorem con_wrap {t : TxnD} {st : ByteArray} {r : Rdg} (h : conS t st r = 0) : IntKind.i64.wrap (t.seq + 1) = t.seq + 1 := by
  have : txnS t = 0 := by
    unfold conS at h
    cases h1 : (txnS t != 0)
    · simpa using h1
    · simp only [h1, cond_true] at h; exact h
  have := txn_seq this
  rw [IntKind.wrap_i64]; omega
theorem con35 {Φ : Specs} (hg : Idl.Good Tryd.prog Φ) (h11 : Φ 11 = some STxn) (h23 : Φ 23 = some F21) (h24 : Φ 24 = some SPos) : Contract Tryd.prog 35 SNext := by
  refine conT hg k35 ic35 (by decide) fun C t r h => ?_
  obtain ⟨t, st, r, off, u⟩ := t
  cases h
  simp +contextual only [go_sem, ↓reduceIte, Nat.reduceEqDiff, Nat.reduceAdd, Nat.reduceLeDiff, Nat.reduceLT, reduceCtorEq, c35, k35, h11, h23, F21, h24]
  refine ⟨fun h1 => ?_, fun h1 => ⟨fun h2 => ?_, fun h2 => ⟨fun h3 => ?_, fun h3 => ⟨fun h4 => ?_, fun h4 => ?_⟩⟩⟩⟩
  · have hc : conS t st r = txnS t := by simp only [conS, h1, cond_true]
    rw [hc, h1]; rfl
  · have hc : conS t st r = 4 := by simp only [conS, h1, h2, cond_true, cond_false]
    rw [hc]; rfl
  · have hc : conS t st r = 3 := by simp only [conS, h1, h2, h3, cond_true, cond_false]
    rw [hc]; rfl
  · have hc : conS t st r = 2 := by simp only [conS, h1, h2, h3, h4, cond_true, cond_false]
    rw [hc]; rfl
  · have hc : conS t st r = 0 := by simp only [conS, h1, h2, h3, h4, cond_true, cond_false]
    rw [con_wrap hc, hc]; rfl
def updS (t : TxnD) (st : ByteArray) (r : Rdg) (off : Bool) : TxnD × EvD × Int :=
  bif conS t st r != 0 then (t, zE, conS t st r) else bif decide (r.time ≤ t.last.time) then (t, zE, 1)
  else (⟨t.id, t.conn, t.token, t.group, t.start, t.seq + 1, t.stopped, r⟩, ⟨st, t.id, t.conn, t.seq + 1, 2, r.time, ⟨#[]⟩, off, 0, [r]⟩, 0)
abbrev SUpd : List V → Option V := FT fun (t : TxnD × ByteArray × Rdg × Bool × Unit) => some (updS t.1 t.2.1 t.2.2.1 t.2.2.2.1)
def sameR (a b : Rdg) : Bool := a.time == b.time && a.reg == b.reg
def endS (t : TxnD) (st : ByteArray) (r : Rdg) (reason : Int) (off : Bool) : TxnD × EvD × Int :=
  bif conS t st r != 0 then (t, zE, conS t st r) else bif decide (r.time ≤ t.last.time) && !sameR r t.last then (t, zE, 1) else bif decide (reason < 1) || decide (reason > 6) then (t, zE, 2)
  else (zT, ⟨st, t.id, t.conn, t.seq + 1, 3, r.time, ⟨#[]⟩, off, reason, [r]⟩, 0)
abbrev SEnd : List V → Option V := FT fun (t : TxnD × ByteArray × Rdg × Int × Bool × Unit) => some (endS t.1 t.2.1 t.2.2.1 t.2.2.2.1 t.2.2.2.2.1)
theorem con16 {Φ : Specs} (hg : Idl.Good Tryd.prog Φ) (h34 : Φ 34 = some SCon) (h27 : Φ 27 = none) : Contract Tryd.prog 16 SUpd := by
  refine conT hg k16 ic16 (by decide) fun C t r h => ?_
  obtain ⟨t, st, r, off, u⟩ := t
  cases h
  by_cases hc : conS t st r = 0
  · have hc1 : (conS t st r != 0) = false := by simp [hc]
    have hw := con_wrap hc
    have hU : updS t st r off = bif decide (r.time ≤ t.last.time) then (t, zE, 1) else (⟨t.id, t.conn, t.token, t.group, t.start, t.seq + 1, t.stopped, r⟩, ⟨st, t.id, t.conn, t.seq + 1, 2, r.time, ⟨#[]⟩, off, 0, [r]⟩, 0) := by simp only [updS, hc1, cond_false]
    simp +contextual only [go_sem, ↓reduceIte, Nat.reduceEqDiff, Nat.reduceAdd, Nat.reduceLeDiff, Nat.reduceLT, reduceCtorEq, c16, k16, h34, hc1, hw, h27]
    refine ⟨fun h1 => by rw [hU, h1]; rfl, fun h1 => ?_⟩
    rw [h1] at hU
    simp only [cond_false] at hU
    refine CallT.of_walk hg k27 ic27 (by simp) fun C' hlow => ?_
    simp +contextual only [go_sem, ↓reduceIte, Nat.reduceEqDiff, Nat.reduceAdd, Nat.reduceLeDiff, Nat.reduceLT, reduceCtorEq, c27, k27, hw]
    exact ⟨rfl, rfl, hU.symm⟩
  · have hc1 : (conS t st r != 0) = true := by simp [hc]
    simp +contextual only [go_sem, ↓reduceIte, Nat.reduceEqDiff, Nat.reduceAdd, Nat.reduceLeDiff, Nat.reduceLT, reduceCtorEq, c16, k16, h34, hc1]
    simp only [updS, hc1, cond_true]; rfl
theorem con17 {Φ : Specs} (hg : Idl.Good Tryd.prog Φ) (h35 : Φ 35 = some SNext) : Contract Tryd.prog 17 SUpd := by
  refine conT hg k17 ic17 (by decide) fun C t r h => ?_
  obtain ⟨t, st, r, off, u⟩ := t
  cases h
  by_cases hc : conS t st r = 0
  · have hc1 : (conS t st r != 0) = false := by simp [hc]
    have hU : updS t st r off = bif decide (r.time ≤ t.last.time) then (t, zE, 1) else (⟨t.id, t.conn, t.token, t.group, t.start, t.seq + 1, t.stopped, r⟩, ⟨st, t.id, t.conn, t.seq + 1, 2, r.time, ⟨#[]⟩, off, 0, [r]⟩, 0) := by simp only [updS, hc1, cond_false]
    simp +contextual only [go_sem, ↓reduceIte, Nat.reduceEqDiff, Nat.reduceAdd, Nat.reduceLeDiff, Nat.reduceLT, reduceCtorEq, c17, k17, h35, hc1, cond_false, nextE]
    exact ⟨fun h1 => by rw [hU, h1]; rfl, fun h1 => ⟨rfl, rfl, by rw [hU, h1]; rfl⟩⟩
  · have hc1 : (conS t st r != 0) = true := by simp [hc]
    simp +contextual only [go_sem, ↓reduceIte, Nat.reduceEqDiff, Nat.reduceAdd, Nat.reduceLeDiff, Nat.reduceLT, reduceCtorEq, c17, k17, h35, hc1, cond_true]
    simp only [updS, hc1, cond_true]; rfl
theorem con18 {Φ : Specs} (hg : Idl.Good Tryd.prog Φ) (h34 : Φ 34 = some SCon) (h27 : Φ 27 = none) : Contract Tryd.prog 18 SEnd := by
  refine conT hg k18 ic18 (by decide) fun C t r h => ?_
  obtain ⟨t, st, r, reason, off, u⟩ := t
  cases h
  by_cases hc : conS t st r = 0
  · have hc1 : (conS t st r != 0) = false := by simp [hc]
    have hw := con_wrap hc
    have hU : endS t st r reason off = bif decide (r.time ≤ t.last.time) && !sameR r t.last then (t, zE, 1) else bif decide (reason < 1) || decide (reason > 6) then (t, zE, 2) else (zT, ⟨st, t.id, t.conn, t.seq + 1, 3, r.time, ⟨#[]⟩, off, reason, [r]⟩, 0) := by simp only [endS, hc1, cond_false]
    simp +contextual only [go_sem, ↓reduceIte, Nat.reduceEqDiff, Nat.reduceAdd, Nat.reduceLeDiff, Nat.reduceLT, reduceCtorEq, c18, k18, h34, hc1, hw, h27]
    simp only [sameR] at hU
    refine ⟨fun h1 => by rw [hU, h1]; rfl, fun h1 => ⟨fun h2 => by rw [hU, h1, h2]; rfl, fun h2 => ?_⟩⟩
    rw [h1, h2] at hU
    simp only [cond_false] at hU
    refine CallT.of_walk hg k27 ic27 (by simp) fun C' hlow => ?_
    simp +contextual only [go_sem, ↓reduceIte, Nat.reduceEqDiff, Nat.reduceAdd, Nat.reduceLeDiff, Nat.reduceLT, reduceCtorEq, c27, k27, hw]
    exact ⟨rfl, rfl, hU.symm⟩
  · have hc1 : (conS t st r != 0) = true := by simp [hc]
    simp +contextual only [go_sem, ↓reduceIte, Nat.reduceEqDiff, Nat.reduceAdd, Nat.reduceLeDiff, Nat.reduceLT, reduceCtorEq, c18, k18, h34, hc1]
    simp only [endS, hc1, cond_true]; rfl
theorem con19 {Φ : Specs} (hg : Idl.Good Tryd.prog Φ) (h35 : Φ 35 = some SNext) : Contract Tryd.prog 19 SEnd := by
  refine conT hg k19 ic19 (by decide) fun C t r h => ?_
  obtain ⟨t, st, r, reason, off, u⟩ := t
  cases h
  by_cases hc : conS t st r = 0
  · have hc1 : (conS t st r != 0) = false := by simp [hc]
    have hU : endS t st r reason off = bif decide (r.time ≤ t.last.time) && !sameR r t.last then (t, zE, 1) else bif decide (reason < 1) || decide (reason > 6) then (t, zE, 2) else (zT, ⟨st, t.id, t.conn, t.seq + 1, 3, r.time, ⟨#[]⟩, off, reason, [r]⟩, 0) := by simp only [endS, hc1, cond_false]
    simp +contextual only [go_sem, ↓reduceIte, Nat.reduceEqDiff, Nat.reduceAdd, Nat.reduceLeDiff, Nat.reduceLT, reduceCtorEq, c19, k19, h35, hc1, cond_false, nextE]
    simp only [sameR] at hU
    exact ⟨fun h1 => by rw [hU, h1]; rfl, fun h1 => ⟨fun h2 => by rw [hU, h1, h2]; rfl, fun h2 => ⟨rfl, by rw [hU, h1, h2]; rfl⟩⟩⟩
  · have hc1 : (conS t st r != 0) = true := by simp [hc]
    simp +contextual only [go_sem, ↓reduceIte, Nat.reduceEqDiff, Nat.reduceAdd, Nat.reduceLeDiff, Nat.reduceLT, reduceCtorEq, c19, k19, h35, hc1, cond_true]
    simp only [endS, hc1, cond_true]; rfl
end Go.Proofs.YtfinfdbbndcomaaDoor
