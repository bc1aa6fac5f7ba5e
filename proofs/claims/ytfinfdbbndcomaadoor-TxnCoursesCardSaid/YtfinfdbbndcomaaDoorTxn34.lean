/- Transactions. -/
import Derived.Test.YtfinfdbbndcomaaDoorSame36
namespace Go.Proofs.YtfinfdbbndcomaaDoor
set_option linter.all false
open Go.Idl
set_option maxHeartbeats 4000000
set_option maxRecDepth 100000
theorem agTxn : agOf Tryd.prog 25 = some (some 9) := by kernel_rfl
theorem agEv : agOf Tryd.prog 36 = some (some 10) := by kernel_rfl
attribute [local go_sem] Tryd.underlying3 Tryd.underlying5 Tryd.underlying9 Tryd.underlying4 agTxn agEv

abbrev SPos : List V → Option V := FT fun (t : Rdg × Unit) => some (rdgOk t.1)
theorem rdg_ok (r : Rdg) : (decide (r.time ≥ 0) && decide (r.time ≤ 268435456) && decide (r.reg ≥ 0) && decide (r.reg ≤ 1099511627775)) = rdgOk r := by
  rw [Bool.eq_iff_iff]; simp [rdgOk, timeOk, inR]; omega
theorem rdg_ok' (r : Rdg) : (decide (r.time ≥ 0) && decide (r.time ≤ 268435456) && decide (r.reg ≥ 0) && decide (r.reg < 1099511627776)) = rdgOk r := by
  rw [Bool.eq_iff_iff]; simp [rdgOk, timeOk, inR]; omega
theorem con22 {Φ : Specs} (hg : Idl.Good Tryd.prog Φ) : Contract Tryd.prog 22 SPos := by
  refine conT hg k22 ic22 (by decide) fun C t r h => ?_
  obtain ⟨r, u⟩ := t
  cases h
  simp +contextual only [go_sem, ↓reduceIte, Nat.reduceEqDiff, Nat.reduceAdd, Nat.reduceLeDiff, Nat.reduceLT, reduceCtorEq, c22, k22]
  exact rdg_ok r
theorem con24 {Φ : Specs} (hg : Idl.Good Tryd.prog Φ) : Contract Tryd.prog 24 SPos := by
  refine conT hg k24 ic24 (by decide) fun C t r h => ?_
  obtain ⟨r, u⟩ := t
  cases h
  simp +contextual only [go_sem, ↓reduceIte, Nat.reduceEqDiff, Nat.reduceAdd, Nat.reduceLeDiff, Nat.reduceLT, reduceCtorEq, c24, k24]
  exact rdg_ok' r
def txnS (t : TxnD) : Int :=
  bif !okName t.id || !okName t.token || (!decide (t.group = ⟨#[]⟩) && !okName t.group) then 4
  else bif decide (t.conn < 1) || decide (t.conn > 32) || decide (t.start < 0) || decide (t.start > 268435456) || decide (t.seq < 0) || decide (t.seq > 2147483647) || !rdgOk t.last || decide (t.last.time < t.start) then 2
  else bif t.stopped then 1 else 0
abbrev STxn : List V → Option V := FT fun (t : TxnD × Unit) => some (txnS t.1)
theorem con10 {Φ : Specs} (hg : Idl.Good Tryd.prog Φ) (h21 : Φ 21 = some F21) (h22 : Φ 22 = some SPos) : Contract Tryd.prog 10 STxn := by
  refine conT hg k10 ic10 (by decide) fun C t r h => ?_
  obtain ⟨t, u⟩ := t
  cases h
  simp +contextual only [go_sem, ↓reduceIte, Nat.reduceEqDiff, Nat.reduceAdd, Nat.reduceLeDiff, Nat.reduceLT, reduceCtorEq, c10, k10, h21, F21, h22]
  (repeat' (first | apply And.intro | intro _)) <;> simp only [txnS, *, cond_true, cond_false]
theorem con11 {Φ : Specs} (hg : Idl.Good Tryd.prog Φ) (h23 : Φ 23 = some F21) (h24 : Φ 24 = some SPos) : Contract Tryd.prog 11 STxn := by
  refine conT hg k11 ic11 (by decide) fun C t r h => ?_
  obtain ⟨t, u⟩ := t
  cases h
  simp +contextual only [go_sem, ↓reduceIte, Nat.reduceEqDiff, Nat.reduceAdd, Nat.reduceLeDiff, Nat.reduceLT, reduceCtorEq, c11, k11, h23, F21, h24]
  (repeat' (first | apply And.intro | intro _)) <;> simp only [txnS, *, cond_true, cond_false]
def tokS (t : TokD) : Int :=
  bif !okName t.id then 4 else bif (!decide (t.group = ⟨#[]⟩) && !okName t.group) || (!decide (t.contract = ⟨#[]⟩) && !okName t.contract) then 4
  else bif decide (t.kind < 1) || decide (t.kind > 3) then 2 else bif decide (t.status < 1) || decide (t.status > 3) then 2 else bif decide (t.expiry < -1) || decide (t.expiry > 268435456) then 2 else 0
theorem bool9 : ∀ a b c k l m n o p : Bool, (bif a then (4 : Int) else bif b || c then 4 else bif k || l then 2 else bif m || n then 2 else bif o || p then 2 else 0) = (bif a || b || c then 4 else bif k || l || m || n || o || p then 2 else 0) := by decide
theorem tok_eq (t : TokD) : tokS t = bif !okName t.id || (!decide (t.group = ⟨#[]⟩) && !okName t.group) || (!decide (t.contract = ⟨#[]⟩) && !okName t.contract) then 4
    else bif decide (t.kind < 1) || decide (t.kind > 3) || decide (t.status < 1) || decide (t.status > 3) || decide (t.expiry < -1) || decide (t.expiry > 268435456) then 2 else 0 := bool9 _ _ _ _ _ _ _ _ _
abbrev STok : List V → Option V := FT fun (t : TokD × Unit) => some (tokS t.1)
theorem con26 {Φ : Specs} (hg : Idl.Good Tryd.prog Φ) (h21 : Φ 21 = some F21) : Contract Tryd.prog 26 STok := by
  refine conT hg k26 ic26 (by decide) fun C t r h => ?_
  obtain ⟨t, u⟩ := t
  cases h
  simp +contextual only [go_sem, ↓reduceIte, Nat.reduceEqDiff, Nat.reduceAdd, Nat.reduceLeDiff, Nat.reduceLT, reduceCtorEq, c26, k26, h21, F21]
  (repeat' (first | apply And.intro | intro _)) <;> simp only [tokS, *, cond_true, cond_false]
theorem con29 {Φ : Specs} (hg : Idl.Good Tryd.prog Φ) (h23 : Φ 23 = some F21) : Contract Tryd.prog 29 STok := by
  refine conT hg k29 ic29 (by decide) fun C t r h => ?_
  obtain ⟨t, u⟩ := t
  cases h
  simp +contextual only [go_sem, ↓reduceIte, Nat.reduceEqDiff, Nat.reduceAdd, Nat.reduceLeDiff, Nat.reduceLT, reduceCtorEq, c29, k29, h23, F21]
  rw [tok_eq]
  (repeat' (first | apply And.intro | intro _)) <;> simp only [*, cond_true, cond_false]
end Go.Proofs.YtfinfdbbndcomaaDoor
