/- Transactions: the plain laws. -/
import Derived.Test.YtfinfdbbndcomaaDoorTxn34c
namespace Go.Proofs.YtfinfdbbndcomaaDoor
set_option linter.all false
open Go.Idl
structure TxnOk (t : TxnD) : Prop where
  id : okName t.id = true
  token : okName t.token = true
  group : t.group = ⟨#[]⟩ ∨ okName t.group = true
  conn : 1 ≤ t.conn ∧ t.conn ≤ 32
  start : 0 ≤ t.start ∧ t.start ≤ 268435456
  seq : 0 ≤ t.seq ∧ t.seq ≤ 2147483647
  last : rdgOk t.last = true
  late : t.start ≤ t.last.time
  stopped : t.stopped = false
theorem txn_ok {t : TxnD} : txnS t = 0 ↔ TxnOk t := by
  constructor
  · intro h
    unfold txnS at h
    cases h1 : (!okName t.id || !okName t.token || (!decide (t.group = ⟨#[]⟩) && !okName t.group))
    · cases h2 : (decide (t.conn < 1) || decide (t.conn > 32) || decide (t.start < 0) || decide (t.start > 268435456) || decide (t.seq < 0) || decide (t.seq > 2147483647) || !rdgOk t.last || decide (t.last.time < t.start))
      · cases h3 : t.stopped
        · simp only [Bool.or_eq_false_iff, decide_eq_false_iff_not, Bool.not_eq_false', Bool.and_eq_false_iff] at h1 h2
          refine ⟨h1.1.1, h1.1.2, ?_, by omega, by omega, by omega, h2.1.2, by omega, h3⟩
          rcases h1.2 with h | h
          · left; simpa using h
          · exact .inr h
        · simp [h1, h2, h3] at h
      · simp [h1, h2] at h
    · simp [h1] at h
  · rintro ⟨a1, a2, a3, a4, a5, a6, a7, a8, a9⟩
    have h1 : (!okName t.id || !okName t.token || (!decide (t.group = ⟨#[]⟩) && !okName t.group)) = false := by
      rcases a3 with h | h <;> simp [a1, a2, h]
    have h2 : (decide (t.conn < 1) || decide (t.conn > 32) || decide (t.start < 0) || decide (t.start > 268435456) || decide (t.seq < 0) || decide (t.seq > 2147483647) || !rdgOk t.last || decide (t.last.time < t.start)) = false := by
      simp only [Bool.or_eq_false_iff, decide_eq_false_iff_not, Bool.not_eq_false']
      refine ⟨⟨⟨⟨⟨⟨⟨?_, ?_⟩, ?_⟩, ?_⟩, ?_⟩, ?_⟩, a7⟩, ?_⟩ <;> omega
    simp only [txnS, h1, h2, a9, cond_false]
theorem rdg_iff {r : Rdg} : rdgOk r = true ↔ (0 ≤ r.time ∧ r.time ≤ 268435456) ∧ 0 ≤ r.reg ∧ r.reg ≤ 1099511627775 := by
  simp [rdgOk, timeOk, inR]
theorem rds_one {e : EvD} {r : Rdg} (h : e.rds = [r]) (ht : e.time = r.time) (hr : rdgOk r = true) : rdsS e = 0 := by
  simp [rdsS, h, ht, rdsL, hr, noMore, lastT]
theorem ev_ok {e : EvD} {r : Rdg} (h1 : okName e.station = true) (h2 : okName e.txn = true) (hc : 1 ≤ e.conn ∧ e.conn ≤ 32) (hs : 0 ≤ e.seq ∧ e.seq ≤ 2147483647) (h : e.rds = [r]) (ht : e.time = r.time) (hr : rdgOk r = true) (hk : kindS e = 0) : evS e = 0 := by
  have hn : numsS e = true := by
    have := (rdg_iff.1 hr).1
    simp only [numsS, inR, timeOk, Bool.and_eq_true, decide_eq_true_eq]; omega
  have hr1 := rds_one h ht hr
  simp [evS, h1, h2, hn, hk, hr1]
theorem tok_ok {k : TokD} (h : tokS k = 0) : okName k.id = true ∧ (k.group = ⟨#[]⟩ ∨ okName k.group = true) := by
  unfold tokS at h
  cases h1 : (!okName k.id)
  · cases h2 : ((!decide (k.group = ⟨#[]⟩) && !okName k.group) || (!decide (k.contract = ⟨#[]⟩) && !okName k.contract))
    · simp only [Bool.or_eq_false_iff, Bool.and_eq_false_iff, Bool.not_eq_false', decide_eq_true_eq] at h1 h2
      exact ⟨h1, h2.1⟩
    · simp [h1, h2] at h
  · simp [h1] at h
/-- What a beginning that is accepted gives. -/
theorem beg_cases (st : ByteArray) (n conn : Int) (k : TokD) (r : Rdg) (off : Bool) : (begS st n conn k r off).2.2 ≠ 0 ∨
    (begS st n conn k r off = (⟨idS st n, conn, k.id, k.group, r.time, 0, false, r⟩, ⟨st, idS st n, conn, 0, 1, r.time, k.id, off, 0, [r]⟩, 0) ∧ okName st = true ∧ okName (idS st n) = true ∧ (1 ≤ conn ∧ conn ≤ 32) ∧ tokS k = 0 ∧ rdgOk r = true) := by
  unfold begS
  cases h1 : (!okName st)
  · cases h2 : (decide (n < 1) || decide (n > 2147483647))
    · cases h3 : (!okName (idS st n))
      · cases h4 : (decide (conn < 1) || decide (conn > 32))
        · cases h5 : (tokS k != 0)
          · cases h6 : (!rdgOk r)
            · right
              simp only [cond_false, Bool.not_eq_false', Bool.or_eq_false_iff, decide_eq_false_iff_not] at h1 h3 h4 h6 ⊢
              exact ⟨trivial, h1, h3, by omega, by simpa using h5, h6⟩
            · left; simp
          · left; simpa using h5
        · left; simp
      · left; simp
    · left; simp
  · left; simp
theorem beg_ok {st : ByteArray} {n conn : Int} {k : TokD} {r : Rdg} {off : Bool} (h : (begS st n conn k r off).2.2 = 0) : txnS (begS st n conn k r off).1 = 0 ∧ evS (begS st n conn k r off).2.1 = 0 := by
  rcases beg_cases st n conn k r off with h0 | ⟨e, h1, h2, h3, h4, h5⟩
  · exact absurd h h0
  · rw [e]
    have ht := tok_ok h4
    have hr := rdg_iff.1 h5
    refine ⟨txn_ok.2 ⟨h2, ht.1, ht.2, h3, ⟨by dsimp only; omega, by dsimp only; omega⟩, ⟨by simp, by simp⟩, h5, by dsimp only; omega, rfl⟩, ev_ok (r := r) h1 h2 h3 ⟨by simp, by simp⟩ rfl rfl h5 ?_⟩
    simp [kindS, ht.1]
theorem con_ok {t : TxnD} {st : ByteArray} {r : Rdg} (h : conS t st r = 0) : TxnOk t ∧ okName st = true ∧ t.seq ≠ 2147483647 ∧ rdgOk r = true := by
  unfold conS at h
  cases h1 : (txnS t != 0)
  · cases h2 : (!okName st)
    · cases h3 : (t.seq == 2147483647)
      · cases h4 : (!rdgOk r)
        · exact ⟨txn_ok.1 (by simpa using h1), by simpa using h2, by simpa using h3, by simpa using h4⟩
        · simp [h1, h2, h3, h4] at h
      · simp [h1, h2, h3] at h
    · simp [h1, h2] at h
  · simp only [h1, cond_true] at h
    simp [h] at h1
theorem upd_cases (t : TxnD) (st : ByteArray) (r : Rdg) (off : Bool) : ((updS t st r off).2.2 ≠ 0 ∧ (updS t st r off).1 = t ∧ (updS t st r off).2.1 = zE) ∨
    (updS t st r off = (⟨t.id, t.conn, t.token, t.group, t.start, t.seq + 1, t.stopped, r⟩, ⟨st, t.id, t.conn, t.seq + 1, 2, r.time, ⟨#[]⟩, off, 0, [r]⟩, 0) ∧ conS t st r = 0 ∧ t.last.time < r.time) := by
  unfold updS
  cases h1 : (conS t st r != 0)
  · cases h2 : decide (r.time ≤ t.last.time)
    · right
      simp only [cond_false, decide_eq_false_iff_not] at h2 ⊢
      exact ⟨trivial, by simpa using h1, by omega⟩
    · left; simp
  · left; simp only [cond_true]; exact ⟨by simpa using h1, trivial, trivial⟩
theorem upd_ok {t : TxnD} {st : ByteArray} {r : Rdg} {off : Bool} (h : (updS t st r off).2.2 = 0) : txnS (updS t st r off).1 = 0 ∧ evS (updS t st r off).2.1 = 0 := by
  rcases upd_cases t st r off with ⟨h0, _⟩ | ⟨e, h1, h2⟩
  · exact absurd h h0
  · rw [e]
    obtain ⟨ht, hs, hq, hr⟩ := con_ok h1
    have h8 := ht.late
    have h9 := ht.seq
    refine ⟨txn_ok.2 ⟨ht.id, ht.token, ht.group, ht.conn, ht.start, ⟨by dsimp only; omega, by dsimp only; omega⟩, hr, by dsimp only; omega, ht.stopped⟩, ev_ok (r := r) hs ht.id ht.conn ⟨by dsimp only; omega, by dsimp only; omega⟩ rfl rfl hr ?_⟩
    have : (t.seq + 1 == 0) = false := by simp; omega
    simp [kindS, this]
theorem end_cases (t : TxnD) (st : ByteArray) (r : Rdg) (reason : Int) (off : Bool) : (endS t st r reason off).2.2 ≠ 0 ∨
    (endS t st r reason off = (zT, ⟨st, t.id, t.conn, t.seq + 1, 3, r.time, ⟨#[]⟩, off, reason, [r]⟩, 0) ∧ conS t st r = 0 ∧ 1 ≤ reason ∧ reason ≤ 6) := by
  unfold endS
  cases h1 : (conS t st r != 0)
  · cases h2 : (decide (r.time ≤ t.last.time) && !sameR r t.last)
    · cases h3 : (decide (reason < 1) || decide (reason > 6))
      · right
        simp only [cond_false, Bool.or_eq_false_iff, decide_eq_false_iff_not] at h3 ⊢
        exact ⟨trivial, by simpa using h1, by omega, by omega⟩
      · left; simp
    · left; simp
  · left; simpa using h1
theorem end_ok {t : TxnD} {st : ByteArray} {r : Rdg} {reason : Int} {off : Bool} (h : (endS t st r reason off).2.2 = 0) : (endS t st r reason off).1 = zT ∧ evS (endS t st r reason off).2.1 = 0 := by
  rcases end_cases t st r reason off with h0 | ⟨e, h1, h2, h3⟩
  · exact absurd h h0
  · rw [e]
    obtain ⟨ht, hs, hq, hr⟩ := con_ok h1
    have h9 := ht.seq
    refine ⟨rfl, ev_ok (r := r) hs ht.id ht.conn ⟨by dsimp only; omega, by dsimp only; omega⟩ rfl rfl hr ?_⟩
    have e1 : (t.seq + 1 == 0) = false := by simp; omega
    have e2 : (decide (reason < 1) || decide (reason > 6)) = false := by simp; omega
    simp [kindS, e1, e2]
end Go.Proofs.YtfinfdbbndcomaaDoor
