/- Collections of events: order, contradictions, errors. -/
import Derived.Test.YtoccifhckpjfaaaEvent
import Derived.Test.YtoccifhckpjfaaaCompare
namespace Go.Proofs.Ytoccifhckpjfaaa
set_option linter.all false
open Go.Idl
set_option maxHeartbeats 4000000
set_option maxRecDepth 100000
attribute [local go_sem] Try.underlying3 Try.underlying5 Try.underlying9
def keyE (e : EvD) : KeyD := ⟨e.station, e.txn, e.seq⟩
def cmpT (a b : KeyD) : Int := firstNZ [cmpS a.station b.station, cmpS a.txn b.txn]
def cmpK (a b : KeyD) : Int := firstNZ [cmpT a b, cmpI a.seq b.seq]
theorem cmpT_eq {a b : KeyD} : cmpT a b = 0 ↔ a.station = b.station ∧ a.txn = b.txn := by
  unfold cmpT
  by_cases h : cmpS a.station b.station = 0
  · have h' := cmpS_eq.1 h
    simp only [firstNZ, h, ne_eq, not_true, if_false, h', true_and]
    rw [← cmpS_eq]
    split <;> simp_all
  · have h' : ¬ a.station = b.station := fun e => h (cmpS_eq.2 e)
    simp [firstNZ, h, h']
def bef (a b : EvD) : Bool := decide (cmpK (keyE a) (keyE b) < 0)
def one (a b : EvD) : Bool := decide (a.station = b.station) && decide (a.txn = b.txn)
def contra (a b : EvD) : Bool := bif decide (a.seq < b.seq) then a.kind == 3 || decide (a.time > b.time) else bif decide (b.seq < a.seq) then b.kind == 3 || decide (b.time > a.time) else false
abbrev SBef : List V → Option V := FT fun (t : EvD × EvD × Unit) => some (bef t.1 t.2.1)
abbrev SOne : List V → Option V := FT fun (t : EvD × EvD × Unit) => some (one t.1 t.2.1)
abbrev SContraR : List V → Option V := FT fun (t : EvD × EvD × Unit) => some (one t.1 t.2.1 && contra t.1 t.2.1)
theorem con28 {Φ : Specs} (hg : Idl.Good Try.prog Φ) : Contract Try.prog 28 SBef := by
  refine conT hg k28 ic28 (by decide) fun C t r h => ?_
  obtain ⟨a, b, u⟩ := t
  cases h
  simp +contextual only [go_sem, ↓reduceIte, Nat.reduceEqDiff, Nat.reduceAdd, Nat.reduceLeDiff, Nat.reduceLT, reduceCtorEq, c28, k28]
  simp only [ltS_eq, bef, cmpK, cmpT, keyE]
  refine ⟨fun h1 => ?_, fun h1 => ⟨fun h2 => ?_, fun h2 => ?_⟩⟩
  · have : cmpS a.station b.station ≠ 0 := fun e => by simp [cmpS_eq.1 e] at h1
    simp [firstNZ, this]
  · have e1 : cmpS a.station b.station = 0 := cmpS_eq.2 (by simpa using h1)
    have : cmpS a.txn b.txn ≠ 0 := fun e => by simp [cmpS_eq.1 e] at h2
    simp [firstNZ, this, e1]
  · have e1 : cmpS a.station b.station = 0 := cmpS_eq.2 (by simpa using h1)
    have e2 : cmpS a.txn b.txn = 0 := cmpS_eq.2 (by simpa using h2)
    rw [Bool.eq_iff_iff]
    simp only [decide_eq_true_eq, firstNZ, e1, e2, cmpI]
    split
    · simp_all
    · simp only [ne_eq, not_true, if_false]
      constructor
      · intro h; omega
      · intro h; split at h <;> (try split at h) <;> omega
theorem con25 {Φ : Specs} (hg : Idl.Good Try.prog Φ) : Contract Try.prog 25 SOne := by
  refine conT hg k25 ic25 (by decide) fun C t r h => ?_
  obtain ⟨a, b, u⟩ := t
  cases h
  simp +contextual only [go_sem, ↓reduceIte, Nat.reduceEqDiff, Nat.reduceAdd, Nat.reduceLeDiff, Nat.reduceLT, reduceCtorEq, c25, k25]
  rfl
theorem con27 {Φ : Specs} (hg : Idl.Good Try.prog Φ) (h25 : Φ 25 = some SOne) : Contract Try.prog 27 SContraR := by
  refine conT hg k27 ic27 (by decide) fun C t r h => ?_
  obtain ⟨a, b, u⟩ := t
  cases h
  simp +contextual only [go_sem, ↓reduceIte, Nat.reduceEqDiff, Nat.reduceAdd, Nat.reduceLeDiff, Nat.reduceLT, reduceCtorEq, c27, k27, h25]
  refine ⟨fun h => ?_, fun h => ⟨fun h2 => ?_, fun h2 => ?_⟩⟩
  · cases ho : one a b with
    | false => rfl
    | true =>
      have e : a.seq = b.seq := by simpa [ho] using h
      simp [contra, e]
  · simp only [Bool.or_eq_false_iff, Bool.not_eq_false', beq_eq_false_iff_ne, ne_eq] at h
    have l1 : decide (a.seq < b.seq) = false := by simp at h2 ⊢; omega
    have l2 : decide (b.seq < a.seq) = true := by simp at h2 ⊢; omega
    simp only [contra, h.1, l1, l2, cond_true, cond_false, Bool.true_and]
  · simp only [Bool.or_eq_false_iff, Bool.not_eq_false', beq_eq_false_iff_ne, ne_eq] at h
    have l1 : decide (a.seq < b.seq) = true := by simp at h2 ⊢; omega
    simp only [contra, h.1, l1, cond_true, Bool.true_and]
theorem one_cmp (a b : EvD) : one a b = (cmpT (keyE a) (keyE b) == 0) := by
  rw [Bool.eq_iff_iff]; simp [one, cmpT_eq, keyE]
def badP (p : Option EvD) (e : EvD) : Bool := match p with
  | some q => !bef q e || (one q e && contra q e)
  | none => false
def colL (p : Option EvD) : List EvD → Int
  | [] => 0
  | e :: l => bif evS e != 0 then evS e else bif badP p e then 1 else colL (some e) l
def colS (l : List EvD) : Int := bif decide (l.length > 4096) then 3 else colL none l
end Go.Proofs.Ytoccifhckpjfaaa
