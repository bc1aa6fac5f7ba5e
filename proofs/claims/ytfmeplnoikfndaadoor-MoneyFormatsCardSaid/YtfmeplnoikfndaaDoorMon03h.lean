/- Amounts: sums. -/
import Derived.Test.YtfmeplnoikfndaaDoorMon03g
import Derived.Test.YtfmeplnoikfndaaDoorMon03u
import Derived.Laws.Externs
namespace Go.Proofs.YtfmeplnoikfndaaDoor
set_option linter.all false
open Go.Idl Go.RowKit
set_option linter.all false
set_option maxHeartbeats 8000000
set_option maxRecDepth 100000
attribute [local go_sem] Tryd.underlying3 Tryd.underlying45 Tryd.underlying74 Tryd.underlying5 Tryd.underlying9 Tryd.underlying4 Tryd.underlying22
theorem ofVal_func {f : Nat} {xs : Array Value} : Deferred.ofValue (.func (.func f) #[] #[]) xs = pure { target := .fn (.func f) #[], args := xs } := by simp [Deferred.ofValue]
theorem bne_tf : (true != false) = true := rfl
theorem bne_ft : (false != true) = true := rfl
theorem add_run (x y : Int) (hx : 0 ≤ x) (hy : 0 ≤ y) (w : World) : (callFunc 35 #[.int .u64 x, .int .u64 y, .int .u64 0]).run Tryd.prog w =
    .ok (.value (.tuple #[.int .u64 ((x + y + 0) % 18446744073709551616), .int .u64 ((x + y + 0) / 18446744073709551616)])) w := by
  rw [run_callFunc_extern Tryd.func35 (by kernel_rfl) (by kernel_rfl) (by kernel_rfl) (e := add64Entry) (by kernel_rfl), run_add64 x y 0 hx hy (by omega) (by omega)]
  rfl
theorem stepI_add {C : Ctx} {Φ : Specs} {Q : SF → Prop} {rest : List IOp} {d : Nat} {τ : Nat → V} {H : Heap} {n i j ty : Nat} {ts : Array TypeId} {x y : Int} {E : Option (V × List (Nat × Idl.Obj))} (hi : τ i = .sc (.int .u64 x)) (hj : τ j = .sc (.int .u64 y)) (hx : 0 ≤ x) (hy : 0 ≤ y) (hE : E = none)
    (h : seqI Tryd.prog Φ C Q rest ⟨updT τ d (.tup [.sc (.int .u64 ((x + y) % 18446744073709551616)), .sc (.int .u64 ((x + y) / 18446744073709551616))]), H, n⟩) :
    stepI Tryd.prog Φ C Q rest (some d) (some (.opx (pu (.call ⟨.value (.func 35), #[.tmp i, .tmp j, .const (.int .u64 0)], ts⟩) ty))) τ H n E := by
  subst hE
  show OpT Tryd.prog C _ _ fun v s' => seqI Tryd.prog Φ C Q rest ⟨updT τ d v, s'.H, s'.n⟩
  intro tm ds w γ I hS
  left
  have e1 : (⟨tm, ds⟩ : Act).eval (.tmp i) = .int .u64 x := by
    have := hS.opd ds (.tmp i); simp only [opd] at this; rw [hi] at this; exact this.sc_eq
  have e2 : (⟨tm, ds⟩ : Act).eval (.tmp j) = .int .u64 y := by
    have := hS.opd ds (.tmp j); simp only [opd] at this; rw [hj] at this; exact this.sc_eq
  have e3 : (⟨tm, ds⟩ : Act).eval (.const (.int .u64 0)) = .int .u64 0 := rfl
  have e4 : (⟨tm, ds⟩ : Act).eval (.func 35) = .func (.func 35) #[] #[] := rfl
  have hr := add_run x y hx hy w
  rw [Int.add_zero] at hr
  refine ⟨.tuple #[.int .u64 ((x + y) % 18446744073709551616), .int .u64 ((x + y) / 18446744073709551616)], w, .tup [.sc (.int .u64 ((x + y) % 18446744073709551616)), .sc (.int .u64 ((x + y) / 18446744073709551616))], ⟨τ, H, n⟩, γ, I, ?_, h, hS, ?_⟩
  · simp only [pu, execOp, resolve, Sem.run_bind, Sem.run_pure, Result.andThen_ok, List.map_toArray, List.map_cons, List.map_nil, e1, e2, e3, e4, ofVal_func, invoke, Array.append_empty]
    exact hr
  · refine .tup _ _ _ rfl fun k c u hc hu => ?_
    match k with
    | 0 => simp at hc hu; subst hc hu; exact .sc _ _
    | 1 => simp at hc hu; subst hc hu; exact .sc _ _
    | k + 2 => simp at hc
abbrev SSum : List V → Option V := FT fun (t : List Int × Unit) => if (∀ n, n ∈ t.1 → inI n) ∧ t.1.length ≤ 4611686018427387904 then some (sumZ t.1) else none
theorem mem_drop {α : Type} {l : List α} {i : Nat} {x : α} (h : l[i]? = some x) : x ∈ l := List.mem_of_getElem? h
def SumI (l : List Int) (xs : List Int) (a : Int × Int) : Prop := Two a.1 a.2 (l.sum - xs.sum)
theorem SumI.next {l xs : List Int} {x : Int} {a : Int × Int} (h : SumI l (x :: xs) a) (hx : inI x) {l' h' c : Int}
    (hc : c = (a.2 + x % 18446744073709551616) / 18446744073709551616) (hl : l' = (a.2 + x % 18446744073709551616) % 18446744073709551616)
    (hh : h' = if x < 0 then ((a.1 + c) % 18446744073709551616 - 1) % 18446744073709551616 else (a.1 + c) % 18446744073709551616) : SumI l xs (h', l') := by
  have := Two.step h x hx.1 hx.2 hc hl hh
  unfold SumI
  rw [List.sum_cons] at this
  rw [show l.sum - xs.sum = l.sum - (x + xs.sum) + x by omega]
  exact this
theorem sum_fin {l : List Int} {a : Int × Int} (h : SumI l [] a) (hl : (∀ n, n ∈ l → inI n) ∧ l.length ≤ 4611686018427387904) :
    (a.1 = 0 ∧ a.2 < 9223372036854775808 ∧ sumZ l = (a.2, 0)) ∨ (a.1 = 18446744073709551615 ∧ 9223372036854775808 ≤ a.2 ∧ sumZ l = (a.2 - 18446744073709551616, 0)) ∨
    (¬ (a.1 = 0 ∧ a.2 < 9223372036854775808) ∧ ¬ (a.1 = 18446744073709551615 ∧ 9223372036854775808 ≤ a.2) ∧ sumZ l = (0, 20)) := by
  unfold SumI at h
  rw [List.sum_nil, Int.sub_zero] at h
  have hb := sum_bound l hl.1
  have hlen : (l.length : Int) ≤ 4611686018427387904 := by omega
  obtain ⟨k1, k2, k3⟩ := h.ok ⟨by omega, by omega⟩
  have h0 := h.l0
  have h1 := h.l1
  by_cases c1 : a.1 = 0 ∧ a.2 < 9223372036854775808
  · left
    have e := k1 c1
    exact ⟨c1.1, c1.2, by unfold sumZ; rw [if_pos (by omega), e]⟩
  · right
    by_cases c2 : a.1 = 18446744073709551615 ∧ 9223372036854775808 ≤ a.2
    · left
      have e := k2 c2
      exact ⟨c2.1, c2.2, by unfold sumZ; rw [if_pos (by omega), e]⟩
    · right
      refine ⟨c1, c2, ?_⟩
      unfold sumZ
      rw [if_neg fun h => (k3 h).elim c1 c2]
theorem con17 {Φ : Specs} (hg : Idl.Good Tryd.prog Φ) : Contract Tryd.prog 17 SSum := by
  refine conT hg k17 ic17 (by decide) fun C t r h => ?_
  obtain ⟨l, u⟩ := t
  dsimp only at h
  split at h
  case isFalse => cases h
  rename_i hn
  cases h
  simp +contextual only [go_sem, ↓reduceIte, Nat.reduceEqDiff, Nat.reduceAdd, Nat.reduceLeDiff, Nat.reduceLT, reduceCtorEq, c17, k17]
  refine TriI.loopL hg k17 l (fun i (a : Int × Int) => ⟨slotsL [(0, Cod.enc l), (4, .sc (.int .u64 a.1)), (5, .sc (.int .u64 a.2)), (6, .sc (.int .i64 i))], objsL [], 0⟩) (SumI l) (0, 0) (.back rfl ?_) ?_ ?_ ?_
  · simp +contextual only [go_sem, ↓reduceIte, Nat.reduceEqDiff, Nat.reduceAdd, Nat.reduceLeDiff, Nat.reduceLT, reduceCtorEq]
    rfl
  · unfold SumI; rw [Int.sub_self]; exact Two.zero
  · intro a hinv
    rcases sum_fin hinv hn with ⟨e1, e2, e3⟩ | ⟨e1, e2, e3⟩ | ⟨e1, e2, e3⟩
    all_goals
      have g1 := hinv.l0
      have g2 := hinv.l1
    · have w1 : IntKind.i64.wrap a.2 = a.2 := by rw [IntKind.wrap_i64]; omega
      have d1 : decide (a.2 ≥ 0) = true := by simp; omega
      rw [e3]
      simp +contextual only [go_sem, ↓reduceIte, Nat.reduceEqDiff, Nat.reduceAdd, Nat.reduceLeDiff, Nat.reduceLT, reduceCtorEq, k17, List.length_map, Int.lt_irrefl, decide_false, w1, d1, e1, BEq.rfl]
    · have w1 : IntKind.i64.wrap a.2 = a.2 - 18446744073709551616 := by rw [IntKind.wrap_i64]; omega
      have d1 : decide (a.2 - 18446744073709551616 ≥ 0) = false := by simp; omega
      have d2 : decide (a.2 - 18446744073709551616 < 0) = true := by simp; omega
      rw [e3]
      simp +contextual only [go_sem, ↓reduceIte, Nat.reduceEqDiff, Nat.reduceAdd, Nat.reduceLeDiff, Nat.reduceLT, reduceCtorEq, k17, List.length_map, Int.lt_irrefl, decide_false, w1, d1, d2, e1, BEq.rfl]
    · rw [e3]
      by_cases hs : a.2 < 9223372036854775808
      · have w1 : IntKind.i64.wrap a.2 = a.2 := by rw [IntKind.wrap_i64]; omega
        have d1 : decide (a.2 ≥ 0) = true := by simp; omega
        have d2 : decide (a.2 < 0) = false := by simp; omega
        have d3 : (a.1 == 0) = false := by simp; omega
        simp +contextual only [go_sem, ↓reduceIte, Nat.reduceEqDiff, Nat.reduceAdd, Nat.reduceLeDiff, Nat.reduceLT, reduceCtorEq, k17, List.length_map, Int.lt_irrefl, decide_false, w1, d1, d2, d3]
      · have w1 : IntKind.i64.wrap a.2 = a.2 - 18446744073709551616 := by rw [IntKind.wrap_i64]; omega
        have d1 : decide (a.2 - 18446744073709551616 ≥ 0) = false := by simp; omega
        have d2 : decide (a.2 - 18446744073709551616 < 0) = true := by simp; omega
        have d3 : (a.1 == 18446744073709551615) = false := by simp; omega
        simp +contextual only [go_sem, ↓reduceIte, Nat.reduceEqDiff, Nat.reduceAdd, Nat.reduceLeDiff, Nat.reduceLT, reduceCtorEq, k17, List.length_map, Int.lt_irrefl, decide_false, w1, d1, d2, d3]
  · intro i a x xs hd hlt hx hinv
    have hw := wrap_nat hlt (by omega)
    have hxI := hn.1 x (mem_drop hx)
    have hh := hxI
    unfold inI at hh
    have g1 := hinv.l0
    have g2 := hinv.l1
    have g3 := hinv.h0
    have g4 := hinv.h1
    have wx : IntKind.u64.wrap x = x % 18446744073709551616 := by rw [IntKind.wrap_u64]
    have wl : IntKind.u64.wrap (a.2 + x % 18446744073709551616) = (a.2 + x % 18446744073709551616) % 18446744073709551616 := by rw [IntKind.wrap_u64]
    obtain ⟨lo, hlo⟩ : ∃ lo, lo = (a.2 + x % 18446744073709551616) % 18446744073709551616 := ⟨_, rfl⟩
    rw [← hlo] at wl
    by_cases hx0 : x < 0 <;> by_cases hc : lo < x % 18446744073709551616
    · have d1 := decide_eq_true hx0
      have d2 := decide_eq_true hc
      simp +contextual only [go_sem, ↓reduceIte, Nat.reduceEqDiff, Nat.reduceAdd, Nat.reduceLeDiff, Nat.reduceLT, reduceCtorEq, k17, List.length_map, lt_dec hlt, hx, List.getElem?_map, Option.map_some, Int.natCast_nonneg, Int.toNat_natCast, d1, d2, wx, wl, hw, IntKind.wrap_u64]
      refine ⟨(((a.1 - 1) % 18446744073709551616 + 1) % 18446744073709551616, lo), hinv.next hxI (c := 1) (by omega) hlo (by rw [if_pos hx0]; omega), .back rfl ?_⟩
      simp +contextual only [go_sem, ↓reduceIte, Nat.reduceEqDiff, Nat.reduceAdd, Nat.reduceLeDiff, Nat.reduceLT, reduceCtorEq, hw]
    · have d1 := decide_eq_true hx0
      have d2 := decide_eq_false hc
      simp +contextual only [go_sem, ↓reduceIte, Nat.reduceEqDiff, Nat.reduceAdd, Nat.reduceLeDiff, Nat.reduceLT, reduceCtorEq, k17, List.length_map, lt_dec hlt, hx, List.getElem?_map, Option.map_some, Int.natCast_nonneg, Int.toNat_natCast, d1, d2, wx, wl, hw, IntKind.wrap_u64]
      refine ⟨((a.1 - 1) % 18446744073709551616, lo), hinv.next hxI (c := 0) (by omega) hlo (by rw [if_pos hx0]; omega), .back rfl ?_⟩
      simp +contextual only [go_sem, ↓reduceIte, Nat.reduceEqDiff, Nat.reduceAdd, Nat.reduceLeDiff, Nat.reduceLT, reduceCtorEq, hw]
    · have d1 := decide_eq_false hx0
      have d2 := decide_eq_true hc
      simp +contextual only [go_sem, ↓reduceIte, Nat.reduceEqDiff, Nat.reduceAdd, Nat.reduceLeDiff, Nat.reduceLT, reduceCtorEq, k17, List.length_map, lt_dec hlt, hx, List.getElem?_map, Option.map_some, Int.natCast_nonneg, Int.toNat_natCast, d1, d2, wx, wl, hw, IntKind.wrap_u64]
      refine ⟨((a.1 + 1) % 18446744073709551616, lo), hinv.next hxI (c := 1) (by omega) hlo (by rw [if_neg hx0]), .back rfl ?_⟩
      simp +contextual only [go_sem, ↓reduceIte, Nat.reduceEqDiff, Nat.reduceAdd, Nat.reduceLeDiff, Nat.reduceLT, reduceCtorEq, hw]
    · have d1 := decide_eq_false hx0
      have d2 := decide_eq_false hc
      simp +contextual only [go_sem, ↓reduceIte, Nat.reduceEqDiff, Nat.reduceAdd, Nat.reduceLeDiff, Nat.reduceLT, reduceCtorEq, k17, List.length_map, lt_dec hlt, hx, List.getElem?_map, Option.map_some, Int.natCast_nonneg, Int.toNat_natCast, d1, d2, wx, wl, hw, IntKind.wrap_u64]
      refine ⟨(a.1, lo), hinv.next hxI (c := 0) (by omega) hlo (by rw [if_neg hx0]; omega), .back rfl ?_⟩
      simp +contextual only [go_sem, ↓reduceIte, Nat.reduceEqDiff, Nat.reduceAdd, Nat.reduceLeDiff, Nat.reduceLT, reduceCtorEq, hw]
theorem con16 {Φ : Specs} (hg : Idl.Good Tryd.prog Φ) : Contract Tryd.prog 16 SSum := by
  refine conT hg k16 ic16 (by decide) fun C t r h => ?_
  obtain ⟨l, u⟩ := t
  dsimp only at h
  split at h
  case isFalse => cases h
  rename_i hn
  cases h
  simp +contextual only [go_sem, ↓reduceIte, Nat.reduceEqDiff, Nat.reduceAdd, Nat.reduceLeDiff, Nat.reduceLT, reduceCtorEq, c16, k16]
  refine TriI.loopL hg k16 l (fun i (a : Int × Int) => ⟨slotsL [(4, .sc (.int .u64 a.1)), (5, .sc (.int .u64 a.2)), (9, Cod.enc l), (10, .sc (.int .i64 l.length)), (11, .sc (.int .i64 i))], objsL [], 0⟩) (SumI l) (0, 0) (.back rfl ?_) ?_ ?_ ?_
  · simp +contextual only [go_sem, ↓reduceIte, Nat.reduceEqDiff, Nat.reduceAdd, Nat.reduceLeDiff, Nat.reduceLT, reduceCtorEq, List.length_map]
    rfl
  · unfold SumI; rw [Int.sub_self]; exact Two.zero
  · intro a hinv
    rcases sum_fin hinv hn with ⟨e1, e2, e3⟩ | ⟨e1, e2, e3⟩ | ⟨e1, e2, e3⟩
    all_goals
      have g1 := hinv.l0
      have g2 := hinv.l1
    · have w1 : IntKind.i64.wrap a.2 = a.2 := by rw [IntKind.wrap_i64]; omega
      have d1 : decide (a.2 ≥ 0) = true := by simp; omega
      rw [e3]
      simp +contextual only [go_sem, ↓reduceIte, Nat.reduceEqDiff, Nat.reduceAdd, Nat.reduceLeDiff, Nat.reduceLT, reduceCtorEq, k16, Int.lt_irrefl, decide_false, w1, d1, e1, BEq.rfl, bne_self_eq_false]
    · have w1 : IntKind.i64.wrap a.2 = a.2 - 18446744073709551616 := by rw [IntKind.wrap_i64]; omega
      have d1 : decide (a.2 - 18446744073709551616 ≥ 0) = false := by simp; omega
      have d3 : ((18446744073709551615 : Int) != 0) = true := rfl
      have d4 : ((18446744073709551615 : Int) == 0) = false := rfl
      rw [e3]
      simp +contextual only [go_sem, ↓reduceIte, Nat.reduceEqDiff, Nat.reduceAdd, Nat.reduceLeDiff, Nat.reduceLT, reduceCtorEq, k16, Int.lt_irrefl, decide_false, w1, d1, d3, d4, e1, BEq.rfl, bne_self_eq_false]
    · rw [e3]
      by_cases h0 : a.1 = 0
      · have w1 : IntKind.i64.wrap a.2 = a.2 - 18446744073709551616 := by rw [IntKind.wrap_i64]; omega
        have d1 : decide (a.2 - 18446744073709551616 ≥ 0) = false := by simp; omega
        have d5 : ((0 : Int) != 0) = false := rfl
        have d6 : ((0 : Int) == 0) = true := rfl
        simp +contextual only [go_sem, ↓reduceIte, Nat.reduceEqDiff, Nat.reduceAdd, Nat.reduceLeDiff, Nat.reduceLT, reduceCtorEq, k16, Int.lt_irrefl, decide_false, w1, d1, h0, d5, d6, bne_tf]
      · have d5 : (a.1 != 0) = true := by simp; omega
        have d7 : (a.1 == 0) = false := by simp; omega
        by_cases hm : a.1 = 18446744073709551615
        · have w1 : IntKind.i64.wrap a.2 = a.2 := by rw [IntKind.wrap_i64]; omega
          have d1 : decide (a.2 ≥ 0) = true := by simp; omega
          have d3 : ((18446744073709551615 : Int) != 0) = true := rfl
          have d4 : ((18446744073709551615 : Int) == 0) = false := rfl
          simp +contextual only [go_sem, ↓reduceIte, Nat.reduceEqDiff, Nat.reduceAdd, Nat.reduceLeDiff, Nat.reduceLT, reduceCtorEq, k16, Int.lt_irrefl, decide_false, w1, d1, hm, d3, d4, bne_self_eq_false, bne_ft]
        · have d6 : (a.1 != 18446744073709551615) = true := by simp; omega
          simp +contextual only [go_sem, ↓reduceIte, Nat.reduceEqDiff, Nat.reduceAdd, Nat.reduceLeDiff, Nat.reduceLT, reduceCtorEq, k16, Int.lt_irrefl, decide_false, d5, d6, d7]
  · intro i a x xs hd hlt hx hinv
    have hw := wrap_nat hlt (by omega)
    have hxI := hn.1 x (mem_drop hx)
    have hh := hxI
    unfold inI at hh
    have g1 := hinv.l0
    have g2 := hinv.l1
    have g3 := hinv.h0
    have g4 := hinv.h1
    have wx : IntKind.u64.wrap x = x % 18446744073709551616 := by rw [IntKind.wrap_u64]
    simp +contextual only [go_sem, ↓reduceIte, Nat.reduceEqDiff, Nat.reduceAdd, Nat.reduceLeDiff, Nat.reduceLT, reduceCtorEq, k16, lt_dec hlt, hx, List.getElem?_map, Option.map_some, Int.natCast_nonneg, Int.toNat_natCast, wx]
    refine stepI_add (x := a.2) (y := x % 18446744073709551616) rfl rfl g1 (by omega) rfl ?_
    obtain ⟨lo, hlo⟩ : ∃ lo, lo = (a.2 + x % 18446744073709551616) % 18446744073709551616 := ⟨_, rfl⟩
    obtain ⟨c, hc⟩ : ∃ c, c = (a.2 + x % 18446744073709551616) / 18446744073709551616 := ⟨_, rfl⟩
    rw [← hlo, ← hc]
    by_cases hx0 : x < 0
    · have d1 := decide_eq_true hx0
      simp +contextual only [go_sem, ↓reduceIte, Nat.reduceEqDiff, Nat.reduceAdd, Nat.reduceLeDiff, Nat.reduceLT, reduceCtorEq, k16, d1, IntKind.wrap_u64]
      refine ⟨(((a.1 + c) % 18446744073709551616 - 1) % 18446744073709551616, lo), hinv.next hxI hc hlo (by rw [if_pos hx0]), .back rfl ?_⟩
      simp +contextual only [go_sem, ↓reduceIte, Nat.reduceEqDiff, Nat.reduceAdd, Nat.reduceLeDiff, Nat.reduceLT, reduceCtorEq, hw]
    · have d1 := decide_eq_false hx0
      simp +contextual only [go_sem, ↓reduceIte, Nat.reduceEqDiff, Nat.reduceAdd, Nat.reduceLeDiff, Nat.reduceLT, reduceCtorEq, k16, d1, IntKind.wrap_u64]
      refine ⟨((a.1 + c) % 18446744073709551616, lo), hinv.next hxI hc hlo (by rw [if_neg hx0]), .back rfl ?_⟩
      simp +contextual only [go_sem, ↓reduceIte, Nat.reduceEqDiff, Nat.reduceAdd, Nat.reduceLeDiff, Nat.reduceLT, reduceCtorEq, hw]
end Go.Proofs.YtfmeplnoikfndaaDoor
