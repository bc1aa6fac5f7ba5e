/- Transactions. -/
import Derived.Test.YteocedfakgdckaaDoorIdent
namespace Go.Proofs.YteocedfakgdckaaDoor
set_option linter.all false
open Go.Idl
set_option maxHeartbeats 4000000
set_option maxRecDepth 100000
theorem agTxn : agOf Tryd.prog 26 = some (some 9) := by kernel_rfl
theorem agEv : agOf Tryd.prog 29 = some (some 10) := by kernel_rfl
attribute [local go_sem] Tryd.underlying3 Tryd.underlying5 Tryd.underlying9 Tryd.underlying4 agTxn agEv
abbrev SPos : List V → Option V := FT fun (t : Rdg × Unit) => some (rdgOk t.1)
theorem rdg_ok (r : Rdg) : (decide (r.time ≥ 0) && decide (r.time ≤ 268435456) && decide (r.reg ≥ 0) && decide (r.reg ≤ 1099511627775)) = rdgOk r := by
  rw [Bool.eq_iff_iff]; simp [rdgOk, timeOk, inR]; omega
theorem con13 {Φ : Specs} (hg : Idl.Good Tryd.prog Φ) : Contract Tryd.prog 13 SPos := by
  refine conT hg k13 ic13 (by decide) fun C t r h => ?_
  obtain ⟨r, u⟩ := t
  cases h
  simp +contextual only [go_sem, ↓reduceIte, Nat.reduceEqDiff, Nat.reduceAdd, Nat.reduceLeDiff, Nat.reduceLT, reduceCtorEq, c13, k13]
  exact rdg_ok r
def txnS (t : TxnD) : Int :=
  bif !okName t.id || !okName t.token || (!decide (t.group = ⟨#[]⟩) && !okName t.group) then 4
  else bif decide (t.conn < 1) || decide (t.conn > 32) || decide (t.start < 0) || decide (t.start > 268435456) || decide (t.seq < 0) || decide (t.seq > 2147483647) || !rdgOk t.last || decide (t.last.time < t.start) then 2
  else bif t.stopped then 1 else 0
abbrev STxn : List V → Option V := FT fun (t : TxnD × Unit) => some (txnS t.1)
theorem con34 {Φ : Specs} (hg : Idl.Good Tryd.prog Φ) (h10 : Φ 10 = some F10) (h13 : Φ 13 = some SPos) : Contract Tryd.prog 34 STxn := by
  refine conT hg k34 ic34 (by decide) fun C t r h => ?_
  obtain ⟨t, u⟩ := t
  cases h
  simp +contextual only [go_sem, ↓reduceIte, Nat.reduceEqDiff, Nat.reduceAdd, Nat.reduceLeDiff, Nat.reduceLT, reduceCtorEq, c34, k34, h10, F10, h13]
  (repeat' (first | apply And.intro | intro _)) <;> simp only [txnS, *, cond_true, cond_false]
def tokS (t : TokD) : Int :=
  bif !okName t.id then 4 else bif (!decide (t.group = ⟨#[]⟩) && !okName t.group) || (!decide (t.contract = ⟨#[]⟩) && !okName t.contract) then 4
  else bif decide (t.kind < 1) || decide (t.kind > 3) then 2 else bif decide (t.status < 1) || decide (t.status > 3) then 2 else bif decide (t.expiry < -1) || decide (t.expiry > 268435456) then 2 else 0
abbrev STok : List V → Option V := FT fun (t : TokD × Unit) => some (tokS t.1)
theorem con12 {Φ : Specs} (hg : Idl.Good Tryd.prog Φ) (h10 : Φ 10 = some F10) : Contract Tryd.prog 12 STok := by
  refine conT hg k12 ic12 (by decide) fun C t r h => ?_
  obtain ⟨t, u⟩ := t
  cases h
  simp +contextual only [go_sem, ↓reduceIte, Nat.reduceEqDiff, Nat.reduceAdd, Nat.reduceLeDiff, Nat.reduceLT, reduceCtorEq, c12, k12, h10, F10]
  (repeat' (first | apply And.intro | intro _)) <;> simp only [tokS, *, cond_true, cond_false]
end Go.Proofs.YteocedfakgdckaaDoor
namespace Go.Proofs.YteocedfakgdckaaDoor
set_option linter.all false
open Go.Idl
set_option maxHeartbeats 4000000
set_option maxRecDepth 100000
attribute [local go_sem] Tryd.underlying3 Tryd.underlying5 Tryd.underlying9 Tryd.underlying4 agTxn agEv Tryd.underlying22
def zT : TxnD := ⟨⟨#[]⟩, 0, ⟨#[]⟩, ⟨#[]⟩, 0, 0, false, ⟨0, 0⟩⟩
def zE : EvD := ⟨⟨#[]⟩, ⟨#[]⟩, 0, 0, 0, 0, ⟨#[]⟩, false, 0, []⟩
def idS (st : ByteArray) (n : Int) : ByteArray := st ++ ⟨#[45]⟩ ++ numS n
def begS (st : ByteArray) (n conn : Int) (k : TokD) (r : Rdg) (off : Bool) : TxnD × EvD × Int :=
  bif !okName st then (zT, zE, 4) else bif decide (n < 1) || decide (n > 2147483647) then (zT, zE, 2) else bif !okName (idS st n) then (zT, zE, 4) else bif decide (conn < 1) || decide (conn > 32) then (zT, zE, 2)
  else bif tokS k != 0 then (zT, zE, tokS k) else bif !rdgOk r then (zT, zE, 2)
  else (⟨idS st n, conn, k.id, k.group, r.time, 0, false, r⟩, ⟨st, idS st n, conn, 0, 1, r.time, k.id, off, 0, [r]⟩, 0)
abbrev SBeg : List V → Option V := FT fun (t : ByteArray × Int × Int × TokD × Rdg × Bool × Unit) => some (begS t.1 t.2.1 t.2.2.1 t.2.2.2.1 t.2.2.2.2.1 t.2.2.2.2.2.1)
theorem name_len {s : ByteArray} (h : okName s = true) : s.size ≤ 36 := by simp [okName] at h; exact h.2.1
theorem con4 {Φ : Specs} (hg : Idl.Good Tryd.prog Φ) (h10 : Φ 10 = some F10) (h13 : Φ 13 = some SPos) (h12 : Φ 12 = some STok) (h11 : Φ 11 = some Fitoa) (h14 : Φ 14 = none) : Contract Tryd.prog 4 SBeg := by
  refine conT hg k4 ic4 (by decide) fun C t r h => ?_
  obtain ⟨st, n, conn, k, r, off, u⟩ := t
  cases h
  cases ho : okName st with
  | false =>
    simp +contextual only [go_sem, ↓reduceIte, Nat.reduceEqDiff, Nat.reduceAdd, Nat.reduceLeDiff, Nat.reduceLT, reduceCtorEq, c4, k4, h10, F10, ho]
    simp only [begS, ho, Bool.not_false, cond_true]; rfl
  | true =>
    have hl := name_len ho
    have hnl := numS_len n
    have e3 : IntKind.i64.max = 9223372036854775807 := rfl
    have s1 : ((st.size + (⟨#[45]⟩ : ByteArray).size : Nat) : Int) ≤ IntKind.i64.max := by
      have : (⟨#[45]⟩ : ByteArray).size = 1 := rfl
      omega
    have s2 : (((st ++ ⟨#[45]⟩ : ByteArray).size + (numS n).size : Nat) : Int) ≤ IntKind.i64.max := by
      rw [ByteArray.size_append]
      have : (⟨#[45]⟩ : ByteArray).size = 1 := rfl
      omega
    cases hn : (decide (n < 1) || decide (n > 2147483647)) with
    | true =>
      simp +contextual only [go_sem, ↓reduceIte, Nat.reduceEqDiff, Nat.reduceAdd, Nat.reduceLeDiff, Nat.reduceLT, reduceCtorEq, c4, k4, h10, F10, ho, hn]
      simp only [begS, ho, hn, Bool.not_true, cond_true, cond_false]; rfl
    | false =>
      have hn1 : 0 ≤ n ∧ n ≤ 2147483647 := by simp at hn; omega
      simp +contextual only [go_sem, ↓reduceIte, Nat.reduceEqDiff, Nat.reduceAdd, Nat.reduceLeDiff, Nat.reduceLT, reduceCtorEq, c4, k4, h10, F10, ho, hn, hn1, h11, Fitoa, s1, s2, h12, h13, h14, and_self]
      have hB : begS st n conn k r off = bif !okName (st ++ ⟨#[45]⟩ ++ numS n) then (zT, zE, 4) else bif decide (conn < 1) || decide (conn > 32) then (zT, zE, 2) else bif tokS k != 0 then (zT, zE, tokS k) else bif !rdgOk r then (zT, zE, 2)
        else (⟨st ++ ⟨#[45]⟩ ++ numS n, conn, k.id, k.group, r.time, 0, false, r⟩, ⟨st, st ++ ⟨#[45]⟩ ++ numS n, conn, 0, 1, r.time, k.id, off, 0, [r]⟩, 0) := by
        simp only [begS, ho, hn, Bool.not_true, cond_false]; rfl
      refine ⟨fun h1 => by rw [hB, h1]; rfl, fun h1 => ⟨fun h2 => by rw [hB, h1, h2]; rfl, fun h2 => ⟨fun h3 => by rw [hB, h1, h2, h3]; rfl, fun h3 => ⟨fun h4 => by rw [hB, h1, h2, h3, h4]; rfl, fun h4 => ?_⟩⟩⟩⟩
      rw [h1, h2, h3, h4] at hB
      simp only [cond_false] at hB
      refine CallT.of_walk hg k14 ic14 (by simp) fun C' hlow => ?_
      simp +contextual only [go_sem, ↓reduceIte, Nat.reduceEqDiff, Nat.reduceAdd, Nat.reduceLeDiff, Nat.reduceLT, reduceCtorEq, c14, k14]
      exact ⟨rfl, rfl, hB.symm⟩
end Go.Proofs.YteocedfakgdckaaDoor
namespace Go.Proofs.YteocedfakgdckaaDoor
set_option linter.all false
open Go.Idl
set_option maxHeartbeats 4000000
set_option maxRecDepth 100000
theorem eqRdg2 : eqInfo Tryd.prog 24 = some [.i .i64, .i .i64] := by kernel_rfl
attribute [local go_sem] Tryd.underlying3 Tryd.underlying5 Tryd.underlying9 Tryd.underlying4 agTxn agEv eqRdg2
def conS (t : TxnD) (st : ByteArray) (r : Rdg) : Int := bif txnS t != 0 then txnS t else bif !okName st then 4 else bif t.seq == 2147483647 then 3 else bif !rdgOk r then 2 else 0
abbrev SCon : List V → Option V := FT fun (t : TxnD × ByteArray × Rdg × Unit) => some (conS t.1 t.2.1 t.2.2.1)
theorem con15 {Φ : Specs} (hg : Idl.Good Tryd.prog Φ) (h34 : Φ 34 = some STxn) (h10 : Φ 10 = some F10) (h13 : Φ 13 = some SPos) : Contract Tryd.prog 15 SCon := by
  refine conT hg k15 ic15 (by decide) fun C t r h => ?_
  obtain ⟨t, st, r, u⟩ := t
  cases h
  simp +contextual only [go_sem, ↓reduceIte, Nat.reduceEqDiff, Nat.reduceAdd, Nat.reduceLeDiff, Nat.reduceLT, reduceCtorEq, c15, k15, h34, h10, F10, h13]
  (repeat' (first | apply And.intro | intro _)) <;> simp only [conS, *, cond_true, cond_false]
theorem txn_seq {t : TxnD} (h : txnS t = 0) : 0 ≤ t.seq ∧ t.seq ≤ 2147483647 := by
  unfold txnS at h
  cases h1 : (!okName t.id || !okName t.token || (!decide (t.group = ⟨#[]⟩) && !okName t.group))
  · cases h2 : (decide (t.conn < 1) || decide (t.conn > 32) || decide (t.start < 0) || decide (t.start > 268435456) || decide (t.seq < 0) || decide (t.seq > 2147483647) || !rdgOk t.last || decide (t.last.time < t.start))
    · simp only [Bool.or_eq_false_iff, decide_eq_false_iff_not] at h2
      omega
    · simp [h1, h2] at h
  · simp [h1] at h
theorem con_wrap {t : TxnD} {st : ByteArray} {r : Rdg} (h : conS t st r = 0) : IntKind.i64.wrap (t.seq + 1) = t.seq + 1 := by
  have : txnS t = 0 := by
    unfold conS at h
    cases h1 : (txnS t != 0)
    · simpa using h1
    · simp only [h1, cond_true] at h; exact h
  have := txn_seq this
  rw [IntKind.wrap_i64]; omega
def updS (t : TxnD) (st : ByteArray) (r : Rdg) (off : Bool) : TxnD × EvD × Int :=
  bif conS t st r != 0 then (t, zE, conS t st r) else bif decide (r.time ≤ t.last.time) then (t, zE, 1)
  else (⟨t.id, t.conn, t.token, t.group, t.start, t.seq + 1, t.stopped, r⟩, ⟨st, t.id, t.conn, t.seq + 1, 2, r.time, ⟨#[]⟩, off, 0, [r]⟩, 0)
abbrev SUpd : List V → Option V := FT fun (t : TxnD × ByteArray × Rdg × Bool × Unit) => some (updS t.1 t.2.1 t.2.2.1 t.2.2.2.1)
def sameR (a b : Rdg) : Bool := a.time == b.time && a.reg == b.reg
def endS (t : TxnD) (st : ByteArray) (r : Rdg) (reason : Int) (off : Bool) : TxnD × EvD × Int :=
  bif conS t st r != 0 then (t, zE, conS t st r) else bif decide (r.time ≤ t.last.time) && !sameR r t.last then (t, zE, 1) else bif decide (reason < 1) || decide (reason > 6) then (t, zE, 2)
  else (zT, ⟨st, t.id, t.conn, t.seq + 1, 3, r.time, ⟨#[]⟩, off, reason, [r]⟩, 0)
abbrev SEnd : List V → Option V := FT fun (t : TxnD × ByteArray × Rdg × Int × Bool × Unit) => some (endS t.1 t.2.1 t.2.2.1 t.2.2.2.1 t.2.2.2.2.1)
theorem con5 {Φ : Specs} (hg : Idl.Good Tryd.prog Φ) (h15 : Φ 15 = some SCon) (h14 : Φ 14 = none) : Contract Tryd.prog 5 SUpd := by
  refine conT hg k5 ic5 (by decide) fun C t r h => ?_
  obtain ⟨t, st, r, off, u⟩ := t
  cases h
  by_cases hc : conS t st r = 0
  · have hc1 : (conS t st r != 0) = false := by simp [hc]
    have hw := con_wrap hc
    have hU : updS t st r off = bif decide (r.time ≤ t.last.time) then (t, zE, 1) else (⟨t.id, t.conn, t.token, t.group, t.start, t.seq + 1, t.stopped, r⟩, ⟨st, t.id, t.conn, t.seq + 1, 2, r.time, ⟨#[]⟩, off, 0, [r]⟩, 0) := by simp only [updS, hc1, cond_false]
    simp +contextual only [go_sem, ↓reduceIte, Nat.reduceEqDiff, Nat.reduceAdd, Nat.reduceLeDiff, Nat.reduceLT, reduceCtorEq, c5, k5, h15, hc1, hw, h14]
    refine ⟨fun h1 => by rw [hU, h1]; rfl, fun h1 => ?_⟩
    rw [h1] at hU
    simp only [cond_false] at hU
    refine CallT.of_walk hg k14 ic14 (by simp) fun C' hlow => ?_
    simp +contextual only [go_sem, ↓reduceIte, Nat.reduceEqDiff, Nat.reduceAdd, Nat.reduceLeDiff, Nat.reduceLT, reduceCtorEq, c14, k14, hw]
    exact ⟨rfl, rfl, hU.symm⟩
  · have hc1 : (conS t st r != 0) = true := by simp [hc]
    simp +contextual only [go_sem, ↓reduceIte, Nat.reduceEqDiff, Nat.reduceAdd, Nat.reduceLeDiff, Nat.reduceLT, reduceCtorEq, c5, k5, h15, hc1]
    simp only [updS, hc1, cond_true]; rfl
theorem con6 {Φ : Specs} (hg : Idl.Good Tryd.prog Φ) (h15 : Φ 15 = some SCon) (h14 : Φ 14 = none) : Contract Tryd.prog 6 SEnd := by
  refine conT hg k6 ic6 (by decide) fun C t r h => ?_
  obtain ⟨t, st, r, reason, off, u⟩ := t
  cases h
  by_cases hc : conS t st r = 0
  · have hc1 : (conS t st r != 0) = false := by simp [hc]
    have hw := con_wrap hc
    have hU : endS t st r reason off = bif decide (r.time ≤ t.last.time) && !sameR r t.last then (t, zE, 1) else bif decide (reason < 1) || decide (reason > 6) then (t, zE, 2) else (zT, ⟨st, t.id, t.conn, t.seq + 1, 3, r.time, ⟨#[]⟩, off, reason, [r]⟩, 0) := by simp only [endS, hc1, cond_false]
    simp +contextual only [go_sem, ↓reduceIte, Nat.reduceEqDiff, Nat.reduceAdd, Nat.reduceLeDiff, Nat.reduceLT, reduceCtorEq, c6, k6, h15, hc1, hw, h14]
    simp only [sameR] at hU
    refine ⟨fun h1 => by rw [hU, h1]; rfl, fun h1 => ⟨fun h2 => by rw [hU, h1, h2]; rfl, fun h2 => ?_⟩⟩
    rw [h1, h2] at hU
    simp only [cond_false] at hU
    refine CallT.of_walk hg k14 ic14 (by simp) fun C' hlow => ?_
    simp +contextual only [go_sem, ↓reduceIte, Nat.reduceEqDiff, Nat.reduceAdd, Nat.reduceLeDiff, Nat.reduceLT, reduceCtorEq, c14, k14, hw]
    exact ⟨rfl, rfl, hU.symm⟩
  · have hc1 : (conS t st r != 0) = true := by simp [hc]
    simp +contextual only [go_sem, ↓reduceIte, Nat.reduceEqDiff, Nat.reduceAdd, Nat.reduceLeDiff, Nat.reduceLT, reduceCtorEq, c6, k6, h15, hc1]
    simp only [endS, hc1, cond_true]; rfl
end Go.Proofs.YteocedfakgdckaaDoor
namespace Go.Proofs.YteocedfakgdckaaDoor
set_option linter.all false
open Go.Idl
theorem rdg_iff {r : Rdg} : rdgOk r = true ↔ (0 ≤ r.time ∧ r.time ≤ 268435456) ∧ 0 ≤ r.reg ∧ r.reg ≤ 1099511627775 := by
  simp [rdgOk, timeOk, inR]
theorem rds_one {e : EvD} {r : Rdg} (h : e.rds = [r]) (ht : e.time = r.time) (hr : rdgOk r = true) : rdsS e = 0 := by
  simp [rdsS, h, ht, rdsL, hr, noMore, lastT]
theorem ev_ok {e : EvD} {r : Rdg} (h1 : okName e.station = true) (h2 : okName e.txn = true) (hc : 1 ≤ e.conn ∧ e.conn ≤ 32) (hs : 0 ≤ e.seq ∧ e.seq ≤ 2147483647) (h : e.rds = [r]) (ht : e.time = r.time) (hr : rdgOk r = true) (hk : kindS e = 0) : evS e = 0 := by
  have hn : numsS e = true := by
    have := (rdg_iff.1 hr).1
    simp only [numsS, inR, timeOk, Bool.and_eq_true, decide_eq_true_eq]; omega
  have hr1 := rds_one h ht hr
  simp [evS, h1, h2, hn, hk, hr1]
end Go.Proofs.YteocedfakgdckaaDoor
