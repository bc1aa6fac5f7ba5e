/- The laws of transactions. -/
import Derived.Test.YtfinfdbbndcomaaDoorTxnLaw34
namespace Go.Proofs.YtfinfdbbndcomaaDoor
set_option linter.all false
open Go.Idl
set_option maxHeartbeats 4000000
set_option maxRecDepth 100000
theorem eqTxn : eqInfo Tryd.prog 25 = some [.s, .i .i64, .s, .s, .i .i64, .i .i64, .b, .i .i64, .i .i64] := by kernel_rfl
attribute [local go_sem] Tryd.underlying3 Tryd.underlying5 Tryd.underlying9 Tryd.underlying4 agTxn agEv eqTxn
abbrev Aw : List V → Option V := FT fun (_ : Unit) => some true
def shortT (t : TxnD) : Bool := decide ((t.id.size : Int) ≤ 50) && decide ((t.token.size : Int) ≤ 50) && decide ((t.group.size : Int) ≤ 50)
abbrev SShortT : List V → Option V := FT fun (t : TxnD × Unit) => some (shortT t.1)
theorem con8 {Φ : Specs} (hg : Idl.Good Tryd.prog Φ) : Contract Tryd.prog 8 SShortT := by
  refine conT hg k8 ic8 (by decide) fun C t r h => ?_
  obtain ⟨t, u⟩ := t
  cases h
  simp +contextual only [go_sem, ↓reduceIte, Nat.reduceEqDiff, Nat.reduceAdd, Nat.reduceLeDiff, Nat.reduceLT, reduceCtorEq, c8, k8]
  rfl
theorem con14 {Φ : Specs} (hg : Idl.Good Tryd.prog Φ) (h30 : Φ 30 = some SSame) : Contract Tryd.prog 14 SSame := by
  refine conT hg k14 ic14 (by decide) fun C t r h => ?_
  obtain ⟨a, b, u⟩ := t
  dsimp only at h
  split at h
  · rename_i hle
    cases h
    simp +contextual only [go_sem, ↓reduceIte, Nat.reduceEqDiff, Nat.reduceAdd, Nat.reduceLeDiff, Nat.reduceLT, reduceCtorEq, c14, k14, h30, hle]
  · cases h
theorem con3 {Φ : Specs} (hg : Idl.Good Tryd.prog Φ) (h8 : Φ 8 = some SShortT) (h9 : Φ 9 = some Aw) (h10 : Φ 10 = some STxn) (h11 : Φ 11 = some STxn) :
    Contract Tryd.prog 3 (FT fun (_ : TxnD × Unit) => some true) := by
  refine conT hg k3 ic3 (by decide) fun C t r h => ?_
  obtain ⟨t, u⟩ := t
  cases h
  simp +contextual only [go_sem, ↓reduceIte, Nat.reduceEqDiff, Nat.reduceAdd, Nat.reduceLeDiff, Nat.reduceLT, reduceCtorEq, c3, k3, h8, h9, h10, h11]
  exact fun _ => rfl
theorem sameE_self (e : EvD) : sameE e e = true := sameE_iff.2 rfl
theorem beg_rds (st : ByteArray) (n conn : Int) (k : TokD) (r : Rdg) (off : Bool) : (begS st n conn k r off).2.1.rds.length ≤ 1000000 := by
  have : (begS st n conn k r off).2.1.rds = [] ∨ (begS st n conn k r off).2.1.rds = [r] := by
    unfold begS
    cases (!okName st) <;> simp only [cond_true, cond_false] <;> try exact .inl rfl
    cases (decide (n < 1) || decide (n > 2147483647)) <;> simp only [cond_true, cond_false] <;> try exact .inl rfl
    cases (!okName (idS st n)) <;> simp only [cond_true, cond_false] <;> try exact .inl rfl
    cases (decide (conn < 1) || decide (conn > 32)) <;> simp only [cond_true, cond_false] <;> try exact .inl rfl
    cases (tokS k != 0) <;> simp only [cond_true, cond_false] <;> try exact .inl rfl
    cases (!rdgOk r) <;> simp only [cond_true, cond_false] <;> first | exact .inl rfl | exact .inr trivial
  rcases this with h | h <;> simp [h]
theorem upd_rds (t : TxnD) (st : ByteArray) (r : Rdg) (off : Bool) : (updS t st r off).2.1.rds.length ≤ 1000000 := by
  rcases upd_cases t st r off with ⟨_, _, h⟩ | ⟨h, _⟩ <;> simp [h, zE]
theorem end_rds (t : TxnD) (st : ByteArray) (r : Rdg) (reason : Int) (off : Bool) : (endS t st r reason off).2.1.rds.length ≤ 1000000 := by
  unfold endS
  cases (conS t st r != 0) <;> simp only [cond_true, cond_false]
  · cases (decide (r.time ≤ t.last.time) && !sameR r t.last) <;> simp only [cond_true, cond_false]
    · cases (decide (reason < 1) || decide (reason > 6)) <;> simp [zE]
    · simp [zE]
  · simp [zE]
theorem con4 {Φ : Specs} (hg : Idl.Good Tryd.prog Φ) (h9 : Φ 9 = some Aw) (h10 : Φ 10 = some STxn) (h12 : Φ 12 = some SBeg) (h13 : Φ 13 = some SBeg) (h14 : Φ 14 = some SSame) (h15 : Φ 15 = some SEv) :
    Contract Tryd.prog 4 (FT fun (_ : StartD × Unit) => some true) := by
  refine conT hg k4 ic4 (by decide) fun C t r h => ?_
  obtain ⟨s, u⟩ := t
  cases h
  have hrd := beg_rds s.station s.serial s.conn s.token s.reading s.offline
  have hok := @beg_ok s.station s.serial s.conn s.token s.reading s.offline
  obtain ⟨B, hB⟩ : ∃ B, begS s.station s.serial s.conn s.token s.reading s.offline = B := ⟨_, rfl⟩
  rw [hB] at hrd hok
  by_cases h0 : B.2.2 = 0
  · obtain ⟨e1, e2⟩ := hok h0
    simp +contextual only [go_sem, ↓reduceIte, Nat.reduceEqDiff, Nat.reduceAdd, Nat.reduceLeDiff, Nat.reduceLT, reduceCtorEq, c4, k4, h9, h10, h12, h13, h14, h15, hB, hrd, h0, e1, e2, sameE_self, beq_self_eq_true, decide_true, Bool.and_self, Bool.not_true, bne_self_eq_false, Bool.or_false]
  · have h1 : (B.2.2 != 0) = true := by simp [h0]
    simp +contextual only [go_sem, ↓reduceIte, Nat.reduceEqDiff, Nat.reduceAdd, Nat.reduceLeDiff, Nat.reduceLT, reduceCtorEq, c4, k4, h9, h10, h12, h13, h14, h15, hB, hrd, h1, sameE_self, beq_self_eq_true, decide_true, Bool.and_self, Bool.not_true, bne_self_eq_false, Bool.or_false]
theorem con5 {Φ : Specs} (hg : Idl.Good Tryd.prog Φ) (h8 : Φ 8 = some SShortT) (h9 : Φ 9 = some Aw) (h10 : Φ 10 = some STxn) (h16 : Φ 16 = some SUpd) (h17 : Φ 17 = some SUpd) (h14 : Φ 14 = some SSame) (h15 : Φ 15 = some SEv) :
    Contract Tryd.prog 5 (FT fun (_ : ReportD × Unit) => some true) := by
  refine conT hg k5 ic5 (by decide) fun C t r h => ?_
  obtain ⟨s, u⟩ := t
  cases h
  have hrd := upd_rds s.t s.station s.reading s.offline
  have hok := @upd_ok s.t s.station s.reading s.offline
  obtain ⟨B, hB⟩ : ∃ B, updS s.t s.station s.reading s.offline = B := ⟨_, rfl⟩
  rw [hB] at hrd hok
  by_cases h0 : B.2.2 = 0
  · obtain ⟨e1, e2⟩ := hok h0
    simp +contextual only [go_sem, ↓reduceIte, Nat.reduceEqDiff, Nat.reduceAdd, Nat.reduceLeDiff, Nat.reduceLT, reduceCtorEq, c5, k5, h8, h9, h10, h16, h17, h14, h15, hB, hrd, h0, e1, e2, zT, sameE_self, beq_self_eq_true, decide_true, Bool.and_self, Bool.not_true, bne_self_eq_false, Bool.or_false]
  · have h1 : (B.2.2 != 0) = true := by simp [h0]
    simp +contextual only [go_sem, ↓reduceIte, Nat.reduceEqDiff, Nat.reduceAdd, Nat.reduceLeDiff, Nat.reduceLT, reduceCtorEq, c5, k5, h8, h9, h10, h16, h17, h14, h15, hB, hrd, h1, sameE_self, beq_self_eq_true, decide_true, Bool.and_self, Bool.not_true, bne_self_eq_false, Bool.or_false]
theorem con6 {Φ : Specs} (hg : Idl.Good Tryd.prog Φ) (h8 : Φ 8 = some SShortT) (h9 : Φ 9 = some Aw) (h10 : Φ 10 = some STxn) (h18 : Φ 18 = some SEnd) (h19 : Φ 19 = some SEnd) (h14 : Φ 14 = some SSame) (h15 : Φ 15 = some SEv) :
    Contract Tryd.prog 6 (FT fun (_ : ReportD × Unit) => some true) := by
  refine conT hg k6 ic6 (by decide) fun C t r h => ?_
  obtain ⟨s, u⟩ := t
  cases h
  have hrd := end_rds s.t s.station s.reading s.reason s.offline
  have hok := @end_ok s.t s.station s.reading s.reason s.offline
  obtain ⟨B, hB⟩ : ∃ B, endS s.t s.station s.reading s.reason s.offline = B := ⟨_, rfl⟩
  rw [hB] at hrd hok
  by_cases h0 : B.2.2 = 0
  · obtain ⟨e1, e2⟩ := hok h0
    simp +contextual only [go_sem, ↓reduceIte, Nat.reduceEqDiff, Nat.reduceAdd, Nat.reduceLeDiff, Nat.reduceLT, reduceCtorEq, c6, k6, h8, h9, h10, h18, h19, h14, h15, hB, hrd, h0, e1, e2, zT, sameE_self, beq_self_eq_true, decide_true, Bool.and_self, Bool.not_true, bne_self_eq_false, Bool.or_false]
  · have h1 : (B.2.2 != 0) = true := by simp [h0]
    simp +contextual only [go_sem, ↓reduceIte, Nat.reduceEqDiff, Nat.reduceAdd, Nat.reduceLeDiff, Nat.reduceLT, reduceCtorEq, c6, k6, h8, h9, h10, h18, h19, h14, h15, hB, hrd, h1, sameE_self, beq_self_eq_true, decide_true, Bool.and_self, Bool.not_true, bne_self_eq_false, Bool.or_false]
end Go.Proofs.YtfinfdbbndcomaaDoor
