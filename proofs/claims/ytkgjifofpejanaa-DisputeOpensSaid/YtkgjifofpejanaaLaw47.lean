/- The laws of disputes. -/
import Derived.Test.YtkgjifofpejanaaDispute
namespace Go.Proofs.Ytkgjifofpejanaa
set_option linter.all false
open Go.Idl
set_option maxHeartbeats 4000000
set_option maxRecDepth 100000
attribute [local go_sem] Try.underlying3 Try.underlying5 Try.underlying9 Try.underlying21 ag23 eq23

theorem con7 {Φ : Specs} (hg : Idl.Good Try.prog Φ) : Contract Try.prog 7 (FT fun (t : Disp × Unit) => some (shortD t.1)) := by
  refine conT hg k7 ic7 (by decide) fun C t r h => ?_
  obtain ⟨d, u⟩ := t
  cases h
  simp +contextual only [go_sem, ↓reduceIte, Nat.reduceEqDiff, Nat.reduceAdd, Nat.reduceLeDiff, Nat.reduceLT, reduceCtorEq, c7, k7]
  rfl

theorem con3 {Φ : Specs} (hg : Idl.Good Try.prog Φ) (h7 : Φ 7 = some (FT fun (t : Disp × Unit) => some (shortD t.1))) (h8 : Φ 8 = some Aw) (h9 : Φ 9 = some (FT fun (t : Disp × Unit) => some (validD t.1)))
    (h10 : Φ 10 = some (FT fun (t : Disp × Unit) => some (validD t.1))) : Contract Try.prog 3 (FT fun (_ : Disp × Unit) => some true) := by
  refine conT hg k3 ic3 (by decide) fun C t r h => ?_
  obtain ⟨d, u⟩ := t
  cases h
  simp +contextual only [go_sem, ↓reduceIte, Nat.reduceEqDiff, Nat.reduceAdd, Nat.reduceLeDiff, Nat.reduceLT, reduceCtorEq, c3, k3, h7, h8, h9, h10]
  intro _
  exact rfl

theorem con5 {Φ : Specs} (hg : Idl.Good Try.prog Φ) (h7 : Φ 7 = some (FT fun (t : Disp × Unit) => some (shortD t.1))) (h8 : Φ 8 = some Aw) (h9 : Φ 9 = some S9) (h14 : Φ 14 = some S14) (h15 : Φ 15 = some S14) :
    Contract Try.prog 5 (FT fun (_ : Disp × MoveD × Unit) => some true) := by
  refine conT hg k5 ic5 (by decide) fun C t r h => ?_
  obtain ⟨d, m, u⟩ := t
  cases h
  simp +contextual only [go_sem, ↓reduceIte, Nat.reduceEqDiff, Nat.reduceAdd, Nat.reduceLeDiff, Nat.reduceLT, reduceCtorEq, c5, k5, h7, h8, h9, h14, h15]
  intro _
  by_cases h0 : (stepS d m.who m.action m.amount m.now).2 = 0
  · rw [step_valid h0]; simp
  · simp [h0]

def briefS (c : CdrD) : Bool := decide ((c.items.length : Int) ≤ 40) && decide ((c.id.size : Int) ≤ 50) && decide ((c.operator.size : Int) ≤ 50) && decide ((c.provider.size : Int) ≤ 50) && decide ((c.session.size : Int) ≤ 50) && decide ((c.tariff.size : Int) ≤ 50) && decide ((c.currency.size : Int) ≤ 50) && decide ((c.ref.size : Int) ≤ 50)
theorem con11 {Φ : Specs} (hg : Idl.Good Try.prog Φ) : Contract Try.prog 11 (FT fun (t : CdrD × Unit) => some (briefS t.1)) := by
  refine conT hg k11 ic11 (by decide) fun C t r h => ?_
  obtain ⟨d, u⟩ := t
  cases h
  simp +contextual only [go_sem, ↓reduceIte, Nat.reduceEqDiff, Nat.reduceAdd, Nat.reduceLeDiff, Nat.reduceLT, reduceCtorEq, c11, k11, List.length_map]
  rfl
abbrev SBrief : List V → Option V := FT fun (t : CdrD × Unit) => some (briefS t.1)
theorem brief_cur {c : CdrD} (h : briefS c = true) : c.currency.size ≤ 1000000 := by
  simp [briefS] at h; omega
theorem con4 {Φ : Specs} (hg : Idl.Good Try.prog Φ) (h11 : Φ 11 = some SBrief) (h8 : Φ 8 = some Aw) (h9 : Φ 9 = some S9) (h12 : Φ 12 = some SOpen) (h13 : Φ 13 = some SOpenR) :
    Contract Try.prog 4 (FT fun (_ : CdrD × ByteArray × Int × Int × Unit) => some true) := by
  refine conT hg k4 ic4 (by decide) fun C t r h => ?_
  obtain ⟨c, x, y, z, u⟩ := t
  cases h
  by_cases hb : briefS c = true
  · simp +contextual only [go_sem, ↓reduceIte, Nat.reduceEqDiff, Nat.reduceAdd, Nat.reduceLeDiff, Nat.reduceLT, reduceCtorEq, c4, k4, h11, h8, h9, h12, h13, hb, brief_cur hb]
    intro _
    by_cases h0 : (openS c x y z).2 = 0
    · rw [open_valid h0]; simp
    · simp [h0]
  · rw [Bool.not_eq_true] at hb
    simp +contextual only [go_sem, ↓reduceIte, Nat.reduceEqDiff, Nat.reduceAdd, Nat.reduceLeDiff, Nat.reduceLT, reduceCtorEq, c4, k4, h11, h8, hb]
def runInv (c : CdrD) (x : Int) (p : Disp × Nat) : Prop := validD p.1 = 0 ∧ p.1.cdr = c.id ∧ p.1.who = c.provider ∧ p.1.claim = x ∧ (p.1.state < 4 → (p.2 : Int) ≤ p.1.state - 1) ∧ p.2 ≤ 3
theorem con6 {Φ : Specs} (hg : Idl.Good Try.prog Φ) (h11 : Φ 11 = some SBrief) (h8 : Φ 8 = some Aw) (h12 : Φ 12 = some SOpen) (h14 : Φ 14 = some S14) (h16 : Φ 16 = some SAmount) :
    Contract Try.prog 6 (FT fun (t : CdrD × Int × Int × List MoveD × Unit) => if t.1.total ≤ 9223372036854775807 then some true else none) := by
  refine conT hg k6 ic6 (by decide) fun C t r h => ?_
  obtain ⟨c, x, y, l, u⟩ := t
  dsimp only at h
  split at h
  · rename_i htot
    cases h
    simp +contextual only [go_sem, ↓reduceIte, Nat.reduceEqDiff, Nat.reduceAdd, Nat.reduceLeDiff, Nat.reduceLT, reduceCtorEq, c6, k6, h11, h8, h12, List.length_map]
    refine fun h1 h2 => ?_
    have hl : l.length ≤ 20 := by simp at h1; omega
    have h0 : (openS c c.provider x y).2 = 0 := by simpa using h2
    have hv := open_valid h0
    obtain ⟨o1, o2, o3, o4, o5, o6, o7, o8⟩ := open_ok h0
    rw [o8] at hv ⊢
    refine TriI.loopL hg k6 l (fun i (p : Disp × Nat) => ⟨slotsL [(1, .sc (.int .i64 x)), (3, Cod.enc l), (4, .ref 0 0 0), (9, .ref 1 0 0), (11, .sc (.int .i64 p.2)), (12, .sc (.int .i64 i))], objsL [.live 14 [Cod.enc c] true, .live 6 [Cod.enc p.1] true], 2⟩)
      (fun _ p => runInv c x p) (⟨c.id, c.provider, 1, y, x, 0⟩, 0) (.back rfl ?_) ⟨hv, rfl, rfl, rfl, by simp, by simp⟩ ?_ ?_
    · simp +contextual only [go_sem, ↓reduceIte, Nat.reduceEqDiff, Nat.reduceAdd, Nat.reduceLeDiff, Nat.reduceLT, reduceCtorEq]
      rfl
    · rintro ⟨d, n⟩ hinv
      simp +contextual only [go_sem, ↓reduceIte, Nat.reduceEqDiff, Nat.reduceAdd, Nat.reduceLeDiff, Nat.reduceLT, reduceCtorEq, k6, h8, Int.lt_irrefl, decide_false, List.length_map]
      have := hinv.2.2.2.2.2
      simp at this ⊢; omega
    · rintro i ⟨⟨dc, dw, ds, dop, dcl, dg⟩, n⟩ m xs hd hlt hx ⟨i1, i2, i3, i4, i5, i6⟩
      dsimp only at i1 i2 i3 i4 i5 i6
      subst i2 i3 i4
      have hw := wrap_nat hlt (by omega)
      by_cases hok : (stepS ⟨c.id, c.provider, ds, dop, dcl, dg⟩ m.who m.action m.amount m.now).2 = 0
      · obtain ⟨q1, q2, q3, q4, q5, q6, q7⟩ := step_ok hok
        dsimp only at q4 q5 q7
        have hs1 : decide (ds ≥ 4) = false := by simp; omega
        obtain ⟨r1, r2, r3, r4, r5, r6⟩ := range1 q3
        obtain ⟨v1, v2, v3, v4, v5, v6, v7, v8, v9, v10, v11⟩ := valid0 q1
        dsimp only at r3 r5 v1 v2 v3 v4 v5 v6 v7 v8 v9 v10 v11
        have hs0 : 2 ≤ stateD m.action ∧ stateD m.action ≤ 6 ∧ ds < stateD m.action ∧ (stateD m.action = 4 ↔ m.action = 3) := by
          obtain ⟨a1, a2, a3⟩ := stateD_in m.action
          refine ⟨a1, a2, ?_, a3⟩
          unfold possD at q6
          unfold stateD
          dsimp only at q6
          (repeat' split) <;> (repeat' split at q6) <;> simp at q6 <;> omega
        have hs2 : decide (stateD m.action ≤ ds) = false := by simp; omega
        have hB : ((stateD m.action == 4 || stateD m.action == 5 || stateD m.action == 2) == decide (m.who = c.provider)) = false := by
          rw [← q5]
          obtain hy | hy | hy | hy | hy : m.action = 1 ∨ m.action = 2 ∨ m.action = 3 ∨ m.action = 4 ∨ m.action = 5 := by omega
          all_goals rw [hy]; decide
        have hN : amountS c.id c.total [⟨c.id, c.provider, stateD m.action, dop, dcl, m.amount⟩] = if stateD m.action = 4 then c.total - m.amount else c.total := by
          simp only [amountS]
          by_cases e : stateD m.action = 4
          · have := r5 (hs0.2.2.2.1 e)
            simp only [e, and_self, if_true]
            rw [IntKind.wrap_i64]; omega
          · simp [e]
        generalize hnn : amountS c.id c.total [⟨c.id, c.provider, stateD m.action, dop, dcl, m.amount⟩] = nn at hN
        have hA : (stateD m.action == 4 && (nn != IntKind.i64.wrap (c.total - m.amount) || decide (nn < IntKind.i64.wrap (c.total - dcl)) || decide (nn < 0)) || stateD m.action != 4 && nn != c.total) = false := by
          by_cases e : stateD m.action = 4
          · have := r5 (hs0.2.2.2.1 e)
            rw [if_pos e] at hN
            have w1 : IntKind.i64.wrap (c.total - m.amount) = c.total - m.amount := by rw [IntKind.wrap_i64]; omega
            have w2 : IntKind.i64.wrap (c.total - dcl) = c.total - dcl := by rw [IntKind.wrap_i64]; omega
            rw [w1, w2, hN]
            simp [e]; omega
          · rw [if_neg e] at hN
            simp [e, hN]
        have hv' : validD ⟨c.id, c.provider, stateD m.action, dop, dcl, m.amount⟩ = 0 := by
          have := step_valid hok
          rw [q7] at this
          exact this
        have hn1 : IntKind.i64.wrap ((n : Int) + 1) = ((n + 1 : Nat) : Int) := by rw [IntKind.wrap_i64]; omega
        have hfin : runInv c dcl (⟨c.id, c.provider, stateD m.action, dop, dcl, m.amount⟩, n + 1) := by
          refine ⟨hv', rfl, rfl, rfl, fun h => ?_, ?_⟩
          · dsimp only at h ⊢
            have := i5 q4
            omega
          · have := i5 q4
            dsimp only
            omega
        cases hcl : (stateD m.action == 4 || stateD m.action == 5 || stateD m.action == 6) with
        | true =>
          simp (config := { maxSteps := 10000000 }) +contextual only [go_sem, ↓reduceIte, Nat.reduceEqDiff, Nat.reduceAdd, Nat.reduceLeDiff, Nat.reduceLT, reduceCtorEq, k6, lt_dec hlt, hx, List.getElem?_map, Option.map_some, Int.natCast_nonneg, Int.toNat_natCast, h14, h16, h8, List.length_map, q7, hs1, hs2, hB, hnn, hA, hcl]
          exact fun _ => ⟨_, hfin, .back rfl (by simp +contextual only [go_sem, ↓reduceIte, Nat.reduceEqDiff, Nat.reduceAdd, Nat.reduceLeDiff, Nat.reduceLT, reduceCtorEq, hw, hn1])⟩
        | false =>
          have hW : stepS ⟨c.id, c.provider, stateD m.action, dop, dcl, m.amount⟩ c.provider 5 0 268435456 = (⟨c.id, c.provider, 6, dop, dcl, 0⟩, 0) := by
            unfold stepS
            have hr : rangeD (⟨c.id, c.provider, stateD m.action, dop, dcl, m.amount⟩, 5, 0, 268435456, ()) = true := by simp [rangeD]; omega
            have h4 : ¬ stateD m.action ≥ 4 := by simp at hcl; omega
            rw [if_neg (by simp [hv']), if_neg (by simp [v2]), if_neg (by simp [hr]), if_neg h4, if_neg (by simp), if_neg (by simp), if_neg (by simp [possD])]
            rfl
          simp (config := { maxSteps := 10000000 }) +contextual only [go_sem, ↓reduceIte, Nat.reduceEqDiff, Nat.reduceAdd, Nat.reduceLeDiff, Nat.reduceLT, reduceCtorEq, k6, lt_dec hlt, hx, List.getElem?_map, Option.map_some, Int.natCast_nonneg, Int.toNat_natCast, h14, h16, h8, List.length_map, q7, hs1, hs2, hB, hnn, hA, hcl, hW]
          exact fun _ => ⟨_, hfin, .back rfl (by simp +contextual only [go_sem, ↓reduceIte, Nat.reduceEqDiff, Nat.reduceAdd, Nat.reduceLeDiff, Nat.reduceLT, reduceCtorEq, hw, hn1])⟩
      · obtain ⟨e, he, hne⟩ : ∃ e, stepS ⟨c.id, c.provider, ds, dop, dcl, dg⟩ m.who m.action m.amount m.now = (⟨c.id, c.provider, ds, dop, dcl, dg⟩, e) ∧ (e != 0) = true := ⟨_, step_same hok, by simpa using hok⟩
        simp (config := { maxSteps := 10000000 }) +contextual only [go_sem, ↓reduceIte, Nat.reduceEqDiff, Nat.reduceAdd, Nat.reduceLeDiff, Nat.reduceLT, reduceCtorEq, k6, lt_dec hlt, hx, List.getElem?_map, Option.map_some, Int.natCast_nonneg, Int.toNat_natCast, h14, h16, h8, List.length_map, he, hne]
        exact fun _ => ⟨(⟨c.id, c.provider, ds, dop, dcl, dg⟩, n), ⟨i1, rfl, rfl, rfl, i5, i6⟩, .back rfl (by simp +contextual only [go_sem, ↓reduceIte, Nat.reduceEqDiff, Nat.reduceAdd, Nat.reduceLeDiff, Nat.reduceLT, reduceCtorEq, hw])⟩
  · cases h
end Go.Proofs.Ytkgjifofpejanaa
