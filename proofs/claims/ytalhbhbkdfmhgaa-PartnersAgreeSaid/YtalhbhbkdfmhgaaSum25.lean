/- Sums of amounts. -/
import Derived.Test.YtalhbhbkdfmhgaaCodes
import Derived.Test.YtalhbhbkdfmhgaaMon03u
import Derived.Laws.Externs
namespace Go.Proofs.Ytalhbhbkdfmhgaa
set_option linter.all false
open Go.Idl Go.RowKit
set_option linter.all false
set_option maxHeartbeats 8000000
set_option maxRecDepth 100000
attribute [local go_sem] Try.underlying3 Try.underlying145 Try.underlying5 Try.underlying9 Try.underlying4
theorem wU64 (n : Int) : IntKind.u64.wrap n = n % 18446744073709551616 := by simp [IntKind.wrap, IntKind.bits, IntKind.signed]
def inI (n : Int) : Prop := -9223372036854775808 ≤ n ∧ n ≤ 9223372036854775807
instance (n : Int) : Decidable (inI n) := by unfold inI; exact inferInstance
theorem ofVal_func {f : Nat} {xs : Array Value} : Deferred.ofValue (.func (.func f) #[] #[]) xs = pure { target := .fn (.func f) #[], args := xs } := by simp [Deferred.ofValue]
theorem bne_tf : (true != false) = true := rfl
theorem bne_ft : (false != true) = true := rfl
theorem add_run (x y : Int) (hx : 0 ≤ x) (hy : 0 ≤ y) (w : World) : (callFunc 75 #[.int .u64 x, .int .u64 y, .int .u64 0]).run Try.prog w =
    .ok (.value (.tuple #[.int .u64 ((x + y + 0) % 18446744073709551616), .int .u64 ((x + y + 0) / 18446744073709551616)])) w := by
  rw [run_callFunc_extern Try.func75 (by kernel_rfl) (by kernel_rfl) (by kernel_rfl) (e := add64Entry) (by kernel_rfl), run_add64 x y 0 hx hy (by omega) (by omega)]
  rfl
theorem stepI_add {C : Ctx} {Φ : Specs} {Q : SF → Prop} {rest : List IOp} {d : Nat} {τ : Nat → V} {H : Heap} {n i j ty : Nat} {ts : Array TypeId} {x y : Int} {E : Option (V × List (Nat × Idl.Obj))} (hi : τ i = .sc (.int .u64 x)) (hj : τ j = .sc (.int .u64 y)) (hx : 0 ≤ x) (hy : 0 ≤ y) (hE : E = none)
    (h : seqI Try.prog Φ C Q rest ⟨updT τ d (.tup [.sc (.int .u64 ((x + y) % 18446744073709551616)), .sc (.int .u64 ((x + y) / 18446744073709551616))]), H, n⟩) :
    stepI Try.prog Φ C Q rest (some d) (some (.opx (pu (.call ⟨.value (.func 75), #[.tmp i, .tmp j, .const (.int .u64 0)], ts⟩) ty))) τ H n E := by
  subst hE
  show OpT Try.prog C _ _ fun v s' => seqI Try.prog Φ C Q rest ⟨updT τ d v, s'.H, s'.n⟩
  intro tm ds w γ I hS
  left
  have e1 : (⟨tm, ds⟩ : Act).eval (.tmp i) = .int .u64 x := by
    have := hS.opd ds (.tmp i); simp only [opd] at this; rw [hi] at this; exact this.sc_eq
  have e2 : (⟨tm, ds⟩ : Act).eval (.tmp j) = .int .u64 y := by
    have := hS.opd ds (.tmp j); simp only [opd] at this; rw [hj] at this; exact this.sc_eq
  have e3 : (⟨tm, ds⟩ : Act).eval (.const (.int .u64 0)) = .int .u64 0 := rfl
  have e4 : (⟨tm, ds⟩ : Act).eval (.func 75) = .func (.func 75) #[] #[] := rfl
  have hr := add_run x y hx hy w
  rw [Int.add_zero] at hr
  refine ⟨.tuple #[.int .u64 ((x + y) % 18446744073709551616), .int .u64 ((x + y) / 18446744073709551616)], w, .tup [.sc (.int .u64 ((x + y) % 18446744073709551616)), .sc (.int .u64 ((x + y) / 18446744073709551616))], ⟨τ, H, n⟩, γ, I, ?_, h, hS, ?_⟩
  · simp only [pu, execOp, resolve, Sem.run_bind, Sem.run_pure, Result.andThen_ok, List.map_toArray, List.map_cons, List.map_nil, e1, e2, e3, e4, ofVal_func, invoke, Array.append_empty]
    exact hr
  · refine .tup _ _ _ rfl fun k c u hc hu => ?_
    match k with
    | 0 => simp at hc hu; subst hc hu; exact .sc _ _
    | 1 => simp at hc hu; subst hc hu; exact .sc _ _
    | k + 2 => simp at hc
abbrev SSum : List V → Option V := FT fun (t : List Int × Unit) => if (∀ n, n ∈ t.1 → inI n) ∧ t.1.length ≤ 4611686018427387904 then some (sumZ t.1) else none
theorem mem_drop {α : Type} {l : List α} {i : Nat} {x : α} (h : l[i]? = some x) : x ∈ l := List.mem_of_getElem? h
def SumI (l : List Int) (xs : List Int) (a : Int × Int) : Prop := Two a.1 a.2 (l.sum - xs.sum)
theorem SumI.next {l xs : List Int} {x : Int} {a : Int × Int} (h : SumI l (x :: xs) a) (hx : inI x) {l' h' c : Int}
    (hc : c = (a.2 + x % 18446744073709551616) / 18446744073709551616) (hl : l' = (a.2 + x % 18446744073709551616) % 18446744073709551616)
    (hh : h' = if x < 0 then ((a.1 + c) % 18446744073709551616 - 1) % 18446744073709551616 else (a.1 + c) % 18446744073709551616) : SumI l xs (h', l') := by
  have := Two.step h x hx.1 hx.2 hc hl hh
  unfold SumI
  rw [List.sum_cons] at this
  rw [show l.sum - xs.sum = l.sum - (x + xs.sum) + x by omega]
  exact this
theorem sum_fin {l : List Int} {a : Int × Int} (h : SumI l [] a) (hl : (∀ n, n ∈ l → inI n) ∧ l.length ≤ 4611686018427387904) :
    (a.1 = 0 ∧ a.2 < 9223372036854775808 ∧ sumZ l = (a.2, 0)) ∨ (a.1 = 18446744073709551615 ∧ 9223372036854775808 ≤ a.2 ∧ sumZ l = (a.2 - 18446744073709551616, 0)) ∨
    (¬ (a.1 = 0 ∧ a.2 < 9223372036854775808) ∧ ¬ (a.1 = 18446744073709551615 ∧ 9223372036854775808 ≤ a.2) ∧ sumZ l = (0, 20)) := by
  unfold SumI at h
  rw [List.sum_nil, Int.sub_zero] at h
  have hb := sum_bound l hl.1
  have hlen : (l.length : Int) ≤ 4611686018427387904 := by omega
  obtain ⟨k1, k2, k3⟩ := h.ok ⟨by omega, by omega⟩
  have h0 := h.l0
  have h1 := h.l1
  by_cases c1 : a.1 = 0 ∧ a.2 < 9223372036854775808
  · left
    have e := k1 c1
    exact ⟨c1.1, c1.2, by unfold sumZ; rw [if_pos (by omega), e]⟩
  · right
    by_cases c2 : a.1 = 18446744073709551615 ∧ 9223372036854775808 ≤ a.2
    · left
      have e := k2 c2
      exact ⟨c2.1, c2.2, by unfold sumZ; rw [if_pos (by omega), e]⟩
    · right
      refine ⟨c1, c2, ?_⟩
      unfold sumZ
      rw [if_neg fun h => (k3 h).elim c1 c2]
theorem con66 {Φ : Specs} (hg : Idl.Good Try.prog Φ) : Contract Try.prog 66 SSum := by
  refine conT hg k66 ic66 (by decide) fun C t r h => ?_
  obtain ⟨l, u⟩ := t
  dsimp only at h
  split at h
  case isFalse => cases h
  rename_i hn
  cases h
  simp +contextual only [go_sem, ↓reduceIte, Nat.reduceEqDiff, Nat.reduceAdd, Nat.reduceLeDiff, Nat.reduceLT, reduceCtorEq, c66, k66]
  refine TriI.loopL hg k66 l (fun i (a : Int × Int) => ⟨slotsL [(4, .sc (.int .u64 a.1)), (5, .sc (.int .u64 a.2)), (9, Cod.enc l), (10, .sc (.int .i64 l.length)), (11, .sc (.int .i64 i))], objsL [], 0⟩) (SumI l) (0, 0) (.back rfl ?_) ?_ ?_ ?_
  · simp +contextual only [go_sem, ↓reduceIte, Nat.reduceEqDiff, Nat.reduceAdd, Nat.reduceLeDiff, Nat.reduceLT, reduceCtorEq, List.length_map]
    rfl
  · unfold SumI; rw [Int.sub_self]; exact Two.zero
  · intro a hinv
    rcases sum_fin hinv hn with ⟨e1, e2, e3⟩ | ⟨e1, e2, e3⟩ | ⟨e1, e2, e3⟩
    all_goals
      have g1 := hinv.l0
      have g2 := hinv.l1
    · have w1 : IntKind.i64.wrap a.2 = a.2 := by rw [IntKind.wrap_i64]; omega
      have d1 : decide (a.2 ≥ 0) = true := by simp; omega
      rw [e3]
      simp +contextual only [go_sem, ↓reduceIte, Nat.reduceEqDiff, Nat.reduceAdd, Nat.reduceLeDiff, Nat.reduceLT, reduceCtorEq, k66, Int.lt_irrefl, decide_false, w1, d1, e1, BEq.rfl, bne_self_eq_false]
    · have w1 : IntKind.i64.wrap a.2 = a.2 - 18446744073709551616 := by rw [IntKind.wrap_i64]; omega
      have d1 : decide (a.2 - 18446744073709551616 ≥ 0) = false := by simp; omega
      have d3 : ((18446744073709551615 : Int) != 0) = true := rfl
      have d4 : ((18446744073709551615 : Int) == 0) = false := rfl
      rw [e3]
      simp +contextual only [go_sem, ↓reduceIte, Nat.reduceEqDiff, Nat.reduceAdd, Nat.reduceLeDiff, Nat.reduceLT, reduceCtorEq, k66, Int.lt_irrefl, decide_false, w1, d1, d3, d4, e1, BEq.rfl, bne_self_eq_false]
    · rw [e3]
      by_cases h0 : a.1 = 0
      · have w1 : IntKind.i64.wrap a.2 = a.2 - 18446744073709551616 := by rw [IntKind.wrap_i64]; omega
        have d1 : decide (a.2 - 18446744073709551616 ≥ 0) = false := by simp; omega
        have d5 : ((0 : Int) != 0) = false := rfl
        have d6 : ((0 : Int) == 0) = true := rfl
        simp +contextual only [go_sem, ↓reduceIte, Nat.reduceEqDiff, Nat.reduceAdd, Nat.reduceLeDiff, Nat.reduceLT, reduceCtorEq, k66, Int.lt_irrefl, decide_false, w1, d1, h0, d5, d6, bne_tf]
      · have d5 : (a.1 != 0) = true := by simp; omega
        have d7 : (a.1 == 0) = false := by simp; omega
        by_cases hm : a.1 = 18446744073709551615
        · have w1 : IntKind.i64.wrap a.2 = a.2 := by rw [IntKind.wrap_i64]; omega
          have d1 : decide (a.2 ≥ 0) = true := by simp; omega
          have d3 : ((18446744073709551615 : Int) != 0) = true := rfl
          have d4 : ((18446744073709551615 : Int) == 0) = false := rfl
          simp +contextual only [go_sem, ↓reduceIte, Nat.reduceEqDiff, Nat.reduceAdd, Nat.reduceLeDiff, Nat.reduceLT, reduceCtorEq, k66, Int.lt_irrefl, decide_false, w1, d1, hm, d3, d4, bne_self_eq_false, bne_ft]
        · have d6 : (a.1 != 18446744073709551615) = true := by simp; omega
          simp +contextual only [go_sem, ↓reduceIte, Nat.reduceEqDiff, Nat.reduceAdd, Nat.reduceLeDiff, Nat.reduceLT, reduceCtorEq, k66, Int.lt_irrefl, decide_false, d5, d6, d7]
  · intro i a x xs hd hlt hx hinv
    have hw := wrap_nat hlt (by omega)
    have hxI := hn.1 x (mem_drop hx)
    have hh := hxI
    unfold inI at hh
    have g1 := hinv.l0
    have g2 := hinv.l1
    have g3 := hinv.h0
    have g4 := hinv.h1
    have wx : IntKind.u64.wrap x = x % 18446744073709551616 := by rw [wU64]
    simp +contextual only [go_sem, ↓reduceIte, Nat.reduceEqDiff, Nat.reduceAdd, Nat.reduceLeDiff, Nat.reduceLT, reduceCtorEq, k66, lt_dec hlt, hx, List.getElem?_map, Option.map_some, Int.natCast_nonneg, Int.toNat_natCast, wx]
    refine stepI_add (x := a.2) (y := x % 18446744073709551616) rfl rfl g1 (by omega) rfl ?_
    obtain ⟨lo, hlo⟩ : ∃ lo, lo = (a.2 + x % 18446744073709551616) % 18446744073709551616 := ⟨_, rfl⟩
    obtain ⟨c, hc⟩ : ∃ c, c = (a.2 + x % 18446744073709551616) / 18446744073709551616 := ⟨_, rfl⟩
    rw [← hlo, ← hc]
    by_cases hx0 : x < 0
    · have d1 := decide_eq_true hx0
      simp +contextual only [go_sem, ↓reduceIte, Nat.reduceEqDiff, Nat.reduceAdd, Nat.reduceLeDiff, Nat.reduceLT, reduceCtorEq, k66, d1, wU64]
      refine ⟨(((a.1 + c) % 18446744073709551616 - 1) % 18446744073709551616, lo), hinv.next hxI hc hlo (by rw [if_pos hx0]), .back rfl ?_⟩
      simp +contextual only [go_sem, ↓reduceIte, Nat.reduceEqDiff, Nat.reduceAdd, Nat.reduceLeDiff, Nat.reduceLT, reduceCtorEq, hw]
    · have d1 := decide_eq_false hx0
      simp +contextual only [go_sem, ↓reduceIte, Nat.reduceEqDiff, Nat.reduceAdd, Nat.reduceLeDiff, Nat.reduceLT, reduceCtorEq, k66, d1, wU64]
      refine ⟨((a.1 + c) % 18446744073709551616, lo), hinv.next hxI hc hlo (by rw [if_neg hx0]), .back rfl ?_⟩
      simp +contextual only [go_sem, ↓reduceIte, Nat.reduceEqDiff, Nat.reduceAdd, Nat.reduceLeDiff, Nat.reduceLT, reduceCtorEq, hw]
end Go.Proofs.Ytalhbhbkdfmhgaa
