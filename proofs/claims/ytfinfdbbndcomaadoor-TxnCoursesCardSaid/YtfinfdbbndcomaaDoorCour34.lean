/- The course of a transaction. -/
import Derived.Test.YtfinfdbbndcomaaDoorLaw34
namespace Go.Proofs.YtfinfdbbndcomaaDoor
set_option linter.all false
open Go.Idl
set_option maxHeartbeats 4000000
set_option maxRecDepth 100000
attribute [local go_sem] Tryd.underlying3 Tryd.underlying5 Tryd.underlying9 Tryd.underlying4 agTxn agEv eqTxn
structure EvAt (st id : ByteArray) (i : Nat) (e : EvD) : Prop where
  ok : evS e = 0
  seq : e.seq = (i : Int)
  txn : e.txn = id
  station : e.station = st
  rds : ∃ r, e.rds = [r] ∧ r.time = e.time
structure Cour (st id : ByteArray) (t : TxnD) (l : List EvD) : Prop where
  ok : TxnOk t
  idq : t.id = id
  seq : t.seq + 1 = (l.length : Int)
  ev : ∀ i e, l[i]? = some e → EvAt st id i e
  knd : ∀ i e, l[i]? = some e → e.kind = if i = 0 then 1 else 2
  tim : ∀ i a b, l[i]? = some a → l[i + 1]? = some b → a.time ≤ b.time
  last : ∀ e, l.getLast? = some e → e.time = t.last.time
theorem get_app {α : Type} {l : List α} {x e : α} {i : Nat} (h : (l ++ [x])[i]? = some e) : l[i]? = some e ∨ (i = l.length ∧ e = x) := by
  by_cases hi : i < l.length
  · rw [List.getElem?_append_left hi] at h; exact .inl h
  · rw [List.getElem?_append_right (by omega)] at h
    obtain ⟨h1, h2⟩ := List.getElem?_eq_some_iff.1 h
    simp at h1 h2
    exact .inr ⟨by omega, h2.symm⟩
theorem get_lt {α : Type} {l : List α} {e : α} {i : Nat} (h : l[i]? = some e) : i < l.length := (List.getElem?_eq_some_iff.1 h).1
theorem last_at {α : Type} {l : List α} {e : α} (h : l[l.length - 1]? = some e) : l.getLast? = some e := by rw [List.getLast?_eq_getElem?]; exact h
theorem cour_beg {st : ByteArray} {n conn : Int} {k : TokD} {r : Rdg} {off : Bool} (h : (begS st n conn k r off).2.2 = 0) : Cour st (idS st n) (begS st n conn k r off).1 [(begS st n conn k r off).2.1] ∧ okName st = true := by
  obtain ⟨e1, e2⟩ := beg_ok h
  rcases beg_cases st n conn k r off with h0 | ⟨e, h1, h2, h3, h4, h5⟩
  · exact absurd h h0
  · rw [e] at e1 e2 ⊢
    refine ⟨⟨txn_ok.1 e1, rfl, rfl, fun i e he => ?_, fun i e he => ?_, fun i a b ha hb => ?_, fun e he => ?_⟩, h1⟩
    · have hi : i = 0 := by have := get_lt he; simp at this; exact this
      subst hi
      simp at he; subst he
      exact ⟨e2, rfl, rfl, rfl, r, rfl, rfl⟩
    · have hi : i = 0 := by have := get_lt he; simp at this; exact this
      subst hi
      simp at he; subst he; rfl
    · have := get_lt hb; simp at this
    · simp at he; subst he; rfl
theorem cour_upd {st id : ByteArray} {t : TxnD} {l : List EvD} {r : Rdg} {off : Bool} (hc : Cour st id t l) (h : (updS t st r off).2.2 = 0) : Cour st id (updS t st r off).1 (l ++ [(updS t st r off).2.1]) := by
  obtain ⟨e1, e2⟩ := upd_ok h
  rcases upd_cases t st r off with ⟨h0, _⟩ | ⟨e, h1, h2⟩
  · exact absurd h h0
  · rw [e] at e1 e2 ⊢
    have hq := hc.seq
    refine ⟨txn_ok.1 e1, hc.idq, ?_, fun i e he => ?_, fun i e he => ?_, fun i a b ha hb => ?_, fun e he => ?_⟩
    · dsimp only; simp; omega
    · rcases get_app he with h | ⟨rfl, rfl⟩
      · exact hc.ev i e h
      · exact ⟨e2, by dsimp only; omega, hc.idq, rfl, r, rfl, rfl⟩
    · rcases get_app he with h | ⟨rfl, rfl⟩
      · exact hc.knd i e h
      · have h9 := hc.ok.seq
        rw [if_neg (by omega)]
    · rcases get_app hb with h | ⟨h3, rfl⟩
      · rcases get_app ha with h' | ⟨h', _⟩
        · exact hc.tim i a b h' h
        · have := get_lt h; omega
      · rcases get_app ha with h' | ⟨h', _⟩
        · have := hc.last a (last_at (by rw [← h3]; exact h'))
          dsimp only; omega
        · omega
    · simp at he; subst he; rfl
theorem cour_con {st id : ByteArray} {t : TxnD} {l : List EvD} (hc : Cour st id t l) (hs : okName st = true) (hl : l.length ≤ 100) : conS t st t.last = 0 := by
  have h1 : (txnS t != 0) = false := by simp [txn_ok.2 hc.ok]
  have h2 : (t.seq == 2147483647) = false := by have := hc.seq; simp; omega
  have h3 := hc.ok.last
  simp [conS, h1, h2, h3, hs]
def inRea (n : Int) : Bool := decide (n ≥ 1) && decide (n ≤ 6)
theorem cour_end {st id : ByteArray} {t : TxnD} {l : List EvD} (hc : Cour st id t l) (hs : okName st = true) (hl : l.length ≤ 100) (reason : Int) : ((endS t st t.last reason false).2.2 == 0) = inRea reason := by
  have h1 := cour_con hc hs hl
  have h2 : sameR t.last t.last = true := by simp [sameR]
  unfold endS
  simp only [h1, h2, Bool.not_true, Bool.and_false, bne_self_eq_false, cond_false, inRea]
  by_cases h : 1 ≤ reason ∧ reason ≤ 6
  · have e1 : (decide (reason < 1) || decide (reason > 6)) = false := by simp; omega
    have e2 : (decide (reason ≥ 1) && decide (reason ≤ 6)) = true := by simp; omega
    simp [e1, e2]
  · have e1 : (decide (reason < 1) || decide (reason > 6)) = true := by simp; omega
    have e2 : (decide (reason ≥ 1) && decide (reason ≤ 6)) = false := by simp; omega
    simp [e1, e2]
/-- What is looked at in the end. -/
structure Fin (st id : ByteArray) (b : Bool) (l : List EvD) : Prop where
  ev : ∀ i e, l[i]? = some e → EvAt st id i e
  start : ∀ i e, l[i]? = some e → (e.kind == 1) = (((i : Nat) : Int) == 0)
  fin : ∀ i e, l[i]? = some e → (e.kind == 3) = (b && (((i : Nat) : Int) == ((l.length - 1 : Nat) : Int)))
  tim : ∀ i a b, l[i]? = some a → l[i + 1]? = some b → a.time ≤ b.time
theorem fin_open {st id : ByteArray} {t : TxnD} {l : List EvD} (hc : Cour st id t l) : Fin st id false l := by
  refine ⟨hc.ev, fun i e he => ?_, fun i e he => ?_, hc.tim⟩
  · rw [hc.knd i e he]
    by_cases h : i = 0
    · subst h; rfl
    · rw [if_neg h]; simp; omega
  · rw [hc.knd i e he]
    split <;> rfl
theorem fin_end {st id : ByteArray} {t : TxnD} {l : List EvD} {reason : Int} (hc : Cour st id t l) (h : (endS t st t.last reason false).2.2 = 0) : Fin st id true (l ++ [(endS t st t.last reason false).2.1]) := by
  obtain ⟨e1, e2⟩ := end_ok h
  have hq := hc.seq
  have h9 := hc.ok.seq
  rcases end_cases t st t.last reason false with h0 | ⟨e, h1, h2, h3⟩
  · exact absurd h h0
  · rw [e] at e2 ⊢
    refine ⟨fun i e he => ?_, fun i e he => ?_, fun i e he => ?_, fun i a b ha hb => ?_⟩
    · rcases get_app he with h | ⟨rfl, rfl⟩
      · exact hc.ev i e h
      · exact ⟨e2, by dsimp only; omega, hc.idq, rfl, t.last, rfl, rfl⟩
    · rcases get_app he with h | ⟨rfl, rfl⟩
      · exact (fin_open hc).start i e h
      · have h7 : (((l.length : Nat) : Int) == 0) = false := by simp only [beq_eq_false_iff_ne, ne_eq]; omega
        rw [h7]; rfl
    · rcases get_app he with h | ⟨rfl, rfl⟩
      · rw [hc.knd i e h]
        have := get_lt h
        have e3 : (((i : Nat) : Int) == (((l ++ [(⟨st, t.id, t.conn, t.seq + 1, 3, t.last.time, ⟨#[]⟩, false, reason, [t.last]⟩ : EvD)]).length - 1 : Nat) : Int)) = false := by simp; omega
        rw [e3]
        split <;> rfl
      · simp
    · rcases get_app hb with h | ⟨h3, rfl⟩
      · rcases get_app ha with h' | ⟨h', _⟩
        · exact hc.tim i a b h' h
        · have := get_lt h; omega
      · rcases get_app ha with h' | ⟨h', _⟩
        · have := hc.last a (last_at (by rw [← h3]; exact h'))
          dsimp only; omega
        · omega
end Go.Proofs.YtfinfdbbndcomaaDoor
