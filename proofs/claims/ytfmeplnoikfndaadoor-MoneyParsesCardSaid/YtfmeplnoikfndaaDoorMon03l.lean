/- Amounts: amounts are read. -/
import Derived.Test.YtfmeplnoikfndaaDoorMon03j
namespace Go.Proofs.YtfmeplnoikfndaaDoor
set_option linter.all false
open Go.Idl Go.Lib Go.RowKit
set_option linter.all false
set_option maxHeartbeats 8000000
set_option maxRecDepth 100000
attribute [local go_sem] Tryd.underlying3 Tryd.underlying45 Tryd.underlying74 Tryd.underlying5 Tryd.underlying9 Tryd.underlying4 Tryd.underlying22
theorem stepI_some {P : Program} {C : Ctx} {Φ : Specs} {Q : SF → Prop} {rest : List IOp} {d : Nat} {t t' : TypeId} {ty : Nat} (ht : ∃ ms, P.underlying t = some (.interface ms)) {τ : Nat → V} {H : Heap} {n k : Nat} {it : TypeId} {v : V} {E : Option (V × List (Nat × Idl.Obj))} (hx : τ k = .iface it v)
    (hE : E = evBin P (opd τ) (pu (.binOp .neq t (.tmp k) (.const .nilIface) t') ty) .neq false (.iface it v) (.sc .nilIface)) (h : seqI P Φ C Q rest ⟨updT τ d (.sc (.bool true)), H, n⟩) :
    stepI P Φ C Q rest (some d) (some (.bin .neq false (.t k) (.k (.sc .nilIface)) (pu (.binOp .neq t (.tmp k) (.const .nilIface) t') ty))) τ H n E := by
  have hn : E = none := by
    rw [hE]
    simp only [evBin, fastBin, evPure]
    rw [if_neg]
    simp [pu, Op.operands, opd, hx, V.conc]
  subst hn
  obtain ⟨ms, ht⟩ := ht
  show OpT P C _ _ fun v s' => seqI P Φ C Q rest ⟨updT τ d v, s'.H, s'.n⟩
  intro tm ds w γ I hS
  left
  have hr : Rep I w γ (.iface it v) ((⟨tm, ds⟩ : Act).eval (.tmp k)) := by
    have := hS.opd ds (.tmp k)
    simp only [opd] at this
    rw [hx] at this
    exact this
  generalize hu : (⟨tm, ds⟩ : Act).eval (.tmp k) = u at hr
  cases hr with
  | iface _ _ _ u' hr' =>
    refine ⟨.bool true, w, .sc (.bool true), ⟨τ, H, n⟩, γ, I, ?_, h, hS, .sc _ _⟩
    have h1 : ∀ d, (Op.equalIn (d + 1) t (.iface it u') .nilIface).run P w = .ok false w := fun d => by simp [Op.equalIn, run_underlying ht]
    have h2 : (Op.equal t (.iface it u') .nilIface).run P w = .ok false w := h1 9999
    simp only [pu, execOp, hu, show (⟨tm, ds⟩ : Act).eval (.const .nilIface) = .nilIface from rfl, eqGuard, binOp]
    simp [h2]
theorem rp_map {P : Program} {α β : Type} (f : α → β) (x : Sem α) : runPure P (f <$> x) = (runPure P x).map f := by
  show runPure P (x >>= fun a => pure (f a)) = _
  rw [runPure_bind]
  cases runPure P x <;> rfl
theorem neq_nil {P : Program} {t t' : TypeId} {ty : Nat} (ht : ∃ ms, P.underlying t = some (.interface ms)) (τ : Nat → V) (k : Nat) (hx : τ k = .sc .nilIface) :
    evBin P (opd τ) (pu (.binOp .neq t (.tmp k) (.const .nilIface) t') ty) .neq false (.sc .nilIface) (.sc .nilIface) = some (.sc (.bool false), []) := by
  obtain ⟨ms, ht⟩ := ht
  simp only [evBin, fastBin]
  refine evPure_of (v := .bool false) ?_ (by simp [pu]) ?_
  · simp [pu, Op.operands, opd, hx, V.conc, V.ofV]
  · have h1 : ∀ d, runPure P (Op.equalIn (d + 1) t .nilIface .nilIface) = some true := fun d => by simp [Op.equalIn, runPure_bind, runPure_underlying ht, runPure_pure]
    have h2 : runPure P (Op.equal t .nilIface .nilIface) = some true := h1 9999
    simp [pu, execOp, opd, hx, V.conc, V.ofV, eqGuard, binOp, runPure_bind, runPure_pure, rp_map, h2]
def SPInt : List V → Option V
  | [.sc (.string s), .sc (.int .i64 10), .sc (.int .i64 64)] => if s.size ≤ 1000000 then (match parseIntB 64 s.data.toList with
    | .ok v => some (.tup [.sc (.int .i64 v), .sc .nilIface])
    | .range => some (.tup [.sc (.int .i64 (intSat 64 s.data.toList)), .iface 88 .any])
    | _ => some (.tup [.sc (.int .i64 0), .iface 88 .any])) else none
  | _ => none
def pRes (p : Int × List UInt8 × Int) : Int × ByteArray × Int := (p.1, bs p.2.1, p.2.2)
abbrev SParse : List V → Option V := FT fun (t : ByteArray × Unit) => if t.1.size ≤ 1000 then some (pRes (parseP t.1.data.toList)) else none
theorem spint_at (s : ByteArray) (h : s.size ≤ 1000000) : SPInt [.sc (.string s), .sc (.int .i64 10), .sc (.int .i64 64)] = (match parseIntB 64 s.data.toList with
    | .ok v => some (.tup [.sc (.int .i64 v), .sc .nilIface])
    | .range => some (.tup [.sc (.int .i64 (intSat 64 s.data.toList)), .iface 88 .any])
    | _ => some (.tup [.sc (.int .i64 0), .iface 88 .any])) := by
  rw [SPInt, if_pos h]
theorem con23 {Φ : Specs} (hg : Idl.Good Tryd.prog Φ) (h43 : Φ 43 = some SPInt) (h21 : Φ 21 = some SFmt) : Contract Tryd.prog 23 SParse := by
  refine conT hg k23 ic23 (by decide) fun C t r h => ?_
  obtain ⟨s, u⟩ := t
  dsimp only at h
  split at h
  case isFalse => cases h
  rename_i hn
  cases h
  obtain ⟨l, rfl⟩ : ∃ l, s = bs l := ⟨_, (bs_of s).symm⟩
  rw [bs_data]
  rw [bs_size] at hn
  unfold parseP
  by_cases h9 : l.length < 9
  · have t1 : decide ((l.length : Int) < 9) = true := by simp; omega
    rw [if_pos h9]
    simp +contextual only [go_sem, ↓reduceIte, Nat.reduceEqDiff, Nat.reduceAdd, Nat.reduceLeDiff, Nat.reduceLT, reduceCtorEq, c23, k23, bs_size, t1]
    rfl
  rw [if_neg h9]
  have t1 : decide ((l.length : Int) < 9) = false := by simp; omega
  have w3 : IntKind.i64.wrap ((l.length : Int) - 3) = ((l.length - 3 : Nat) : Int) := by rw [IntKind.wrap_i64]; omega
  have w4 : IntKind.i64.wrap (((l.length - 3 : Nat) : Int) - 1) = ((l.length - 4 : Nat) : Int) := by rw [IntKind.wrap_i64]; omega
  have z4 : (l.take (l.length - 4)).length = l.length - 4 := by simp
  have w8 : IntKind.i64.wrap (((l.length - 4 : Nat) : Int) - 4) = ((l.length - 8 : Nat) : Int) := by rw [IntKind.wrap_i64]; omega
  have w7 : IntKind.i64.wrap (((l.length - 8 : Nat) : Int) + 1) = ((l.length - 7 : Nat) : Int) := by rw [IntKind.wrap_i64]; omega
  have x1 : (bs l).extract (l.length - 3) l.length = bs (l.drop (l.length - 3)) := by rw [bs_cut, List.take_of_length_le (Nat.le_refl _)]
  have x2 : (bs l).extract 0 (l.length - 4) = bs (l.take (l.length - 4)) := by rw [bs_cut, List.drop_zero]
  have x3 : (bs (l.take (l.length - 4))).extract 0 (l.length - 8) = bs ((l.take (l.length - 4)).take (l.length - 8)) := by rw [bs_cut, List.drop_zero]
  have x4 : (bs (l.take (l.length - 4))).extract (l.length - 7) (l.length - 4) = bs ((l.take (l.length - 4)).drop (l.length - 7)) := by
    rw [bs_cut, List.take_of_length_le (by rw [z4]; exact Nat.le_refl _)]
  have hd : bs ((l.take (l.length - 4)).take (l.length - 8)) ++ bs ((l.take (l.length - 4)).drop (l.length - 7)) = bs (digsP l) := by rw [bs_app]; rfl
  have hds : (digsP l).length ≤ 1000 := by unfold digsP; simp; omega
  have s1 := sz_ok (a := (l.take (l.length - 4)).take (l.length - 8)) (b := (l.take (l.length - 4)).drop (l.length - 7)) (by simp; omega)
  rw [bs_size, bs_size] at s1
  have sp := spint_at (bs (digsP l)) (by rw [bs_size]; omega)
  rw [bs_data] at sp
  have i1 : ((l.length - 3 : Nat) : Int) ≤ (l.length : Int) := by omega
  have i2 : ((l.length - 4 : Nat) : Int) ≤ (l.length : Int) := by omega
  have i3 : ((l.length - 8 : Nat) : Int) ≤ ((l.length - 4 : Nat) : Int) := by omega
  have i4 : ((l.length - 7 : Nat) : Int) ≤ ((l.length - 4 : Nat) : Int) := by omega
  rcases hp : parseIntB 64 (digsP l) with v | _ | _
  · rw [hp] at sp
    have hv := parseIntB_bounds hp
    have hvI : inI v := by unfold inI; simp at hv; omega
    have hcs : (l.drop (l.length - 3)).length ≤ 1000000 := by simp; omega
    dsimp only at sp ⊢
    have hnil := fun (τ : Nat → V) (h : τ 41 = .sc .nilIface) => neq_nil (t' := 71) (ty := 4) ⟨_, Tryd.underlying71⟩ τ 41 h
    simp +contextual only [go_sem, ↓reduceIte, Nat.reduceEqDiff, Nat.reduceAdd, Nat.reduceLeDiff, Nat.reduceLT, reduceCtorEq, c23, k23, bs_size, t1, w3, w4, w7, w8, z4, x1, x2, x3, x4, hd, s1, h43, sp, i1, i2, i3, i4, Int.natCast_nonneg, Int.toNat_natCast, Int.toNat_zero, Int.le_refl, h21, hvI, hcs, hnil]
    refine ⟨rfl, fun h => ?_, fun h => ?_⟩
    · unfold fmtP at h
      rw [bs_data] at h
      by_cases hh : curOk (l.drop (l.length - 3)) = true ∧ fmtL v (l.drop (l.length - 3)) = l
      · rw [if_pos hh.1, hh.2] at h
        simp at h
      · rw [if_neg hh]; rfl
    · unfold fmtP at h
      rw [bs_data] at h
      rw [if_pos]
      · rfl
      · cases hc : curOk (l.drop (l.length - 3)) with
        | false => rw [hc, if_neg (by decide)] at h; cases h
        | true =>
          rw [hc, if_pos rfl] at h
          refine ⟨rfl, ?_⟩
          simpa [bs_inj] using h
  · rw [hp] at sp
    dsimp only at sp ⊢
    simp +contextual only [go_sem, ↓reduceIte, Nat.reduceEqDiff, Nat.reduceAdd, Nat.reduceLeDiff, Nat.reduceLT, reduceCtorEq, c23, k23, bs_size, t1, w3, w4, w7, w8, z4, x1, x2, x3, x4, hd, s1, h43, sp, i1, i2, i3, i4, Int.natCast_nonneg, Int.toNat_natCast, Int.toNat_zero, Int.le_refl]
    refine ⟨rfl, stepI_some (t' := 71) ⟨_, Tryd.underlying71⟩ rfl rfl ?_⟩
    simp +contextual only [go_sem, ↓reduceIte, Nat.reduceEqDiff, Nat.reduceAdd, Nat.reduceLeDiff, Nat.reduceLT, reduceCtorEq, k23]
    rfl
  · rw [hp] at sp
    dsimp only at sp ⊢
    simp +contextual only [go_sem, ↓reduceIte, Nat.reduceEqDiff, Nat.reduceAdd, Nat.reduceLeDiff, Nat.reduceLT, reduceCtorEq, c23, k23, bs_size, t1, w3, w4, w7, w8, z4, x1, x2, x3, x4, hd, s1, h43, sp, i1, i2, i3, i4, Int.natCast_nonneg, Int.toNat_natCast, Int.toNat_zero, Int.le_refl]
    refine ⟨rfl, stepI_some (t' := 71) ⟨_, Tryd.underlying71⟩ rfl rfl ?_⟩
    simp +contextual only [go_sem, ↓reduceIte, Nat.reduceEqDiff, Nat.reduceAdd, Nat.reduceLeDiff, Nat.reduceLT, reduceCtorEq, k23]
    rfl
theorem dec_u0 : (Cod.dec (.sc (.int .u64 0)) : Option U64) = some ⟨0⟩ := rfl
theorem numI_cons (m i acc : Nat) (c : UInt8) (l : List UInt8) : numI m i acc (c :: l) = if i = m then (if c = 46 then numI m (i + 1) acc l else none) else if 48 ≤ c.toNat ∧ c.toNat ≤ 57 then numI m (i + 1) ((10 * acc + (c.toNat - 48)) % 18446744073709551616) l else none := rfl
theorem sg_ok (neg : Bool) (l : List UInt8) (a : Nat) (hneg : l.head? = some 45 ↔ neg = true) :
    (sgnR l a = none ∧ ∃ y, (bif neg then (IntKind.i64.wrap (-(a : Int)), decide (a ≤ 9223372036854775808)) else (IntKind.i64.wrap (a : Int), decide (a < 9223372036854775808))) = (y, false)) ∨
        ∃ v, inI v ∧ sgnR l a = some v ∧ (bif neg then (IntKind.i64.wrap (-(a : Int)), decide (a ≤ 9223372036854775808)) else (IntKind.i64.wrap (a : Int), decide (a < 9223372036854775808))) = (v, true) := by
  unfold sgnR inI
  cases neg with
  | true =>
    rw [if_pos (hneg.2 rfl), cond_true]
    by_cases h : a ≤ 9223372036854775808
    · right
      refine ⟨_, ?_, if_pos h, ?_⟩
      · omega
      · rw [decide_eq_true h, IntKind.wrap_i64, Prod.mk.injEq]; exact ⟨by omega, rfl⟩
    · left
      exact ⟨if_neg h, _, by rw [decide_eq_false h]⟩
  | false =>
    rw [if_neg (fun h => by have := hneg.1 h; cases this), cond_false]
    by_cases h : a < 9223372036854775808
    · right
      refine ⟨_, ?_, if_pos h, ?_⟩
      · omega
      · rw [decide_eq_true h, IntKind.wrap_i64, Prod.mk.injEq]; exact ⟨by omega, rfl⟩
    · left
      exact ⟨if_neg h, _, by rw [decide_eq_false h]⟩
theorem con24 {Φ : Specs} (hg : Idl.Good Tryd.prog Φ) (h41 : Φ 41 = some SCur) (h34 : Φ 34 = some SSgnR) (h22 : Φ 22 = some SFmt) : Contract Tryd.prog 24 (FT fun (t : ByteArray × Unit) => if t.1.size ≤ 1000 then some (pRes (parseR t.1.data.toList)) else none) := by
  refine conT hg k24 ic24 (by decide) fun C t r h => ?_
  obtain ⟨s, u⟩ := t
  dsimp only at h
  split at h
  case isFalse => cases h
  rename_i hn
  cases h
  obtain ⟨l, hl⟩ : ∃ l, l = s.data.toList := ⟨_, rfl⟩
  have hs : s = bs l := by rw [hl]; exact (bs_of s).symm
  rw [← hl]
  have hsl : s.size = l.length := by rw [hs, bs_size]
  unfold parseR
  obtain ⟨tl, htl⟩ : ∃ tl, tl = tailR l := ⟨_, rfl⟩
  rw [← htl]
  have f6 : (0 : Int) ≤ 1 := by decide
  have f7 : (1 : Int).toNat = 1 := rfl
  have htn : tl.length ≤ 1000 := by
    have : (tailR l).length ≤ l.length := by
      unfold tailR
      split
      · simp
      · exact Nat.le_refl _
    rw [htl]; omega
  obtain ⟨neg, hneg'⟩ : ∃ neg, neg = decide (l.head? = some 45) := ⟨_, rfl⟩
  have hneg : l.head? = some 45 ↔ neg = true := by rw [hneg']; simp
  cases hne : neg with
  | true =>
    rw [hne] at hneg hneg'
    have hh := hneg.2 rfl
    obtain ⟨l', hl'⟩ : ∃ l', l = 45 :: l' := by
      cases l with
      | nil => cases hh
      | cons b l' => simp at hh; subst hh; exact ⟨l', rfl⟩
    have htl' : tl = l' := by rw [htl, hl']; rfl
    have hpos : 0 < s.size := by rw [hsl, hl']; simp
    have f1 : decide ((s.size : Int) > 0) = true := by simp; omega
    have f2 : (0 : Nat) < s.size := hpos
    have f3 : ((((s.get! 0).toNat : Nat) : Int) == 45) = true := by rw [hs, hl']; rfl
    obtain ⟨t, ht⟩ : ∃ t, t = bs tl := ⟨_, rfl⟩
    have hts : t.size = tl.length := by rw [ht, bs_size]
    have f4 : s.extract 1 s.size = t := by
      rw [hsl, hs, bs_cut, List.take_of_length_le (Nat.le_refl _), ht, htl', hl']; rfl
    have f5 : (1 : Int) ≤ (s.size : Int) := by omega
    obtain ⟨c, hc⟩ : ∃ c, c = bs (tl.drop (tl.length - 3)) := ⟨_, rfl⟩
    have x1 : t.extract (t.size - 3) t.size = c := by rw [hts, ht, bs_cut, List.take_of_length_le (Nat.le_refl _), hc]
    have hcd : c.data.toList = tl.drop (tl.length - 3) := by rw [hc, bs_data]
    have hcl : c.size ≤ 1000 := by rw [hc, bs_size]; simp; omega
    have hcs : c.size ≤ 9223372036854775807 := by omega
    have hcs2 : c.size ≤ 1000000 := by omega
    by_cases h9 : tl.length < 9
    · rw [if_pos (.inl h9)]
      have t1 : decide ((t.size : Int) < 9) = true := by simp; omega
      simp +contextual only [go_sem, ↓reduceIte, Nat.reduceEqDiff, Nat.reduceAdd, Nat.reduceLeDiff, Nat.reduceLT, reduceCtorEq, c24, k24, t1, x1, hcs, hcd, f1, f2, f3, f4, f5, f6, f7, Int.natCast_nonneg, Int.toNat_natCast, Int.toNat_zero, Int.le_refl, h41]
      try rfl
    have w3 : IntKind.i64.wrap ((t.size : Int) - 3) = ((t.size - 3 : Nat) : Int) := by rw [IntKind.wrap_i64]; omega
    have i1 : ((t.size - 3 : Nat) : Int) ≤ (t.size : Int) := by omega
    have i2 : (0 : Int) ≤ ((t.size - 3 : Nat) : Int) := by omega
    by_cases h24 : tl.length > 24
    · rw [if_pos (.inr (.inl h24))]
      have t1 : decide ((t.size : Int) < 9) = false := by simp; omega
      have t2 : decide ((t.size : Int) > 24) = true := by simp; omega
      simp +contextual only [go_sem, ↓reduceIte, Nat.reduceEqDiff, Nat.reduceAdd, Nat.reduceLeDiff, Nat.reduceLT, reduceCtorEq, c24, k24, t1, t2, w3, x1, i1, i2, hcs, hcd, f1, f2, f3, f4, f5, f6, f7, Int.natCast_nonneg, Int.toNat_natCast, Int.toNat_zero, Int.le_refl, h41]
      try rfl
    have t1 : decide ((t.size : Int) < 9) = false := by simp; omega
    have t2 : decide ((t.size : Int) > 24) = false := by simp; omega
    cases hcur : curOk (tl.drop (tl.length - 3)) with
    | false =>
      rw [if_pos (.inr (.inr rfl))]
      simp +contextual only [go_sem, ↓reduceIte, Nat.reduceEqDiff, Nat.reduceAdd, Nat.reduceLeDiff, Nat.reduceLT, reduceCtorEq, c24, k24, t1, t2, hcur, w3, x1, i1, i2, hcs, hcd, f1, f2, f3, f4, f5, f6, f7, Int.natCast_nonneg, Int.toNat_natCast, Int.toNat_zero, Int.le_refl, h41]
      try rfl
    | true =>
      rw [if_neg (by simp; omega)]
      simp +contextual only [go_sem, ↓reduceIte, Nat.reduceEqDiff, Nat.reduceAdd, Nat.reduceLeDiff, Nat.reduceLT, reduceCtorEq, c24, k24, t1, t2, hcur, w3, x1, i1, i2, hcs, hcd, f1, f2, f3, f4, f5, f6, f7, Int.natCast_nonneg, Int.toNat_natCast, Int.toNat_zero, Int.le_refl, h41]
      have w4 : IntKind.i64.wrap ((t.size : Int) - 4) = ((t.size - 4 : Nat) : Int) := by rw [IntKind.wrap_i64]; omega
      have w8 : IntKind.i64.wrap ((t.size : Int) - 8) = ((t.size - 8 : Nat) : Int) := by rw [IntKind.wrap_i64]; omega
      have htd : t.data.toList = tl := by rw [ht, bs_data]
      have hll : (tl.take (tl.length - 4)).length = tl.length - 4 := by simp
      refine TriI.loopL hg k24 (tl.take (tl.length - 4)) (fun i (a : Nat) => ⟨slotsL [(0, .sc (.string s)), (5, .sc (.int .i64 5)), (6, .sc (.bool true)), (7, .sc (.string t)), (8, .sc (.int .u64 (a : Nat))), (9, .sc (.int .i64 i))], objsL [], 0⟩)
        (fun xs a => a < 18446744073709551616 ∧ numI (tl.length - 8) (tl.length - 4 - xs.length) a xs = numI (tl.length - 8) 0 0 (tl.take (tl.length - 4))) 0 (.back rfl ?_) ⟨by omega, by rw [hll, Nat.sub_self]⟩ ?_ ?_
      · simp +contextual only [go_sem, ↓reduceIte, Nat.reduceEqDiff, Nat.reduceAdd, Nat.reduceLeDiff, Nat.reduceLT, reduceCtorEq]
        first | rfl | trivial
      · rintro a ⟨ha, hinv⟩
        rw [← hinv]
        have hnu : numI (tl.length - 8) (tl.length - 4 - ([] : List UInt8).length) a [] = some a := rfl
        rw [hnu]
        dsimp only
        have e4 : decide (((tl.length - 4 : Nat) : Int) < ((t.size - 4 : Nat) : Int)) = false := by simp; omega
        have sg := sg_ok true l a hneg
        rcases sg with ⟨g1, y, g2⟩ | ⟨v, hv, g1, g2⟩
        · rw [g1]
          simp +contextual only [go_sem, ↓reduceIte, Nat.reduceEqDiff, Nat.reduceAdd, Nat.reduceLeDiff, Nat.reduceLT, reduceCtorEq, k24, hll, w4, e4, h34, dec_u0, inU, ha, g2]
          rfl
        · rw [g1]
          dsimp only
          have hfm : fmtP v c = (bs (fmtL v (tl.drop (tl.length - 3))), 0) := by
            unfold fmtP; rw [hcd, if_pos hcur]
          have bneq : ((0 : Int) != 0) = false := rfl
          simp +contextual only [go_sem, ↓reduceIte, Nat.reduceEqDiff, Nat.reduceAdd, Nat.reduceLeDiff, Nat.reduceLT, reduceCtorEq, k24, hll, w4, e4, h34, dec_u0, inU, ha, g2, w3, x1, i1, i2, hcs, hcd, f1, f2, f3, f4, f5, f6, f7, Int.natCast_nonneg, Int.toNat_natCast, Int.toNat_zero, Int.le_refl, h41, h22, hv, hcs2, hfm, bneq]
          refine ⟨fun h => ?_, fun h => ⟨rfl, ?_⟩⟩
          · rw [if_neg]
            · rfl
            · intro e
              rw [e, hs] at h
              simp at h
          · rw [if_pos]
            · rw [hc]; rfl
            · have : bs (fmtL v (tl.drop (tl.length - 3))) = s := by simpa using h
              rw [hs] at this
              exact bs_inj.1 this
      · rintro i a x xs hdr hlt hx ⟨ha, hinv⟩
        rw [hll] at hlt
        have hxl : xs.length + 1 + i = tl.length - 4 := by
          have := congrArg List.length hdr
          rw [List.length_drop, hll, List.length_cons] at this
          omega
        have hw := wrap_nat hlt (by omega)
        have e4 : decide ((i : Int) < ((t.size - 4 : Nat) : Int)) = true := by simp; omega
        have hxt : t.data.toList[i]? = some x := by
          rw [htd]
          rw [List.getElem?_take, if_pos hlt] at hx
          exact hx
        have hgx := bytes_get hxt
        have hit : i < t.size := by omega
        have e5 : tl.length - 4 - (x :: xs).length = i := by rw [List.length_cons]; omega
        have e6 : tl.length - 4 - xs.length = i + 1 := by omega
        rw [e5, numI_cons] at hinv
        have hx8 := x.toNat_lt
        by_cases hm : i = tl.length - 8
        · have e8 : ((i : Int) == ((t.size - 8 : Nat) : Int)) = true := by simp; omega
          rw [if_pos hm] at hinv
          by_cases hdot : x = 46
          · have b1 : (((x.toNat : Nat) : Int) != 46) = false := by rw [hdot]; rfl
            rw [if_pos hdot] at hinv
            simp +contextual only [go_sem, ↓reduceIte, Nat.reduceEqDiff, Nat.reduceAdd, Nat.reduceLeDiff, Nat.reduceLT, reduceCtorEq, k24, w4, w8, e4, e8, hgx, hit, Int.natCast_nonneg, Int.toNat_natCast, b1]
            refine ⟨a, ⟨ha, by rw [e6]; exact hinv⟩, .back rfl ?_⟩
            simp +contextual only [go_sem, ↓reduceIte, Nat.reduceEqDiff, Nat.reduceAdd, Nat.reduceLeDiff, Nat.reduceLT, reduceCtorEq, hw]
          · have b1 : (((x.toNat : Nat) : Int) != 46) = true := by
              simp only [bne_iff_ne, ne_eq]
              intro h
              apply hdot
              apply UInt8.toNat_inj.1
              have : (46 : UInt8).toNat = 46 := rfl
              omega
            rw [if_neg hdot] at hinv
            rw [← hinv]
            simp +contextual only [go_sem, ↓reduceIte, Nat.reduceEqDiff, Nat.reduceAdd, Nat.reduceLeDiff, Nat.reduceLT, reduceCtorEq, k24, w4, w8, e4, e8, hgx, hit, Int.natCast_nonneg, Int.toNat_natCast, b1]
            rfl
        · have e8 : ((i : Int) == ((t.size - 8 : Nat) : Int)) = false := by simp; omega
          rw [if_neg hm] at hinv
          by_cases hdg : 48 ≤ x.toNat ∧ x.toNat ≤ 57
          · rw [if_pos hdg] at hinv
            have b1 : decide (((x.toNat : Nat) : Int) < 48) = false := by simp; omega
            have b2 : decide (((x.toNat : Nat) : Int) > 57) = false := by simp; omega
            have b3 : IntKind.u8.wrap (((x.toNat : Nat) : Int) - 48) = ((x.toNat - 48 : Nat) : Int) := by rw [IntKind.wrap_u8]; omega
            have b4 : IntKind.u64.wrap ((x.toNat - 48 : Nat) : Int) = ((x.toNat - 48 : Nat) : Int) := by rw [IntKind.wrap_u64]; omega
            have b5 : IntKind.u64.wrap (10 * (a : Int)) = ((10 * a % 18446744073709551616 : Nat) : Int) := by rw [IntKind.wrap_u64]; omega
            have b6 : IntKind.u64.wrap (((10 * a % 18446744073709551616 : Nat) : Int) + ((x.toNat - 48 : Nat) : Int)) = (((10 * a + (x.toNat - 48)) % 18446744073709551616 : Nat) : Int) := by rw [IntKind.wrap_u64]; omega
            simp +contextual only [go_sem, ↓reduceIte, Nat.reduceEqDiff, Nat.reduceAdd, Nat.reduceLeDiff, Nat.reduceLT, reduceCtorEq, k24, w4, w8, e4, e8, hgx, hit, Int.natCast_nonneg, Int.toNat_natCast, b1, b2, b3, b4, b5, b6]
            refine ⟨(10 * a + (x.toNat - 48)) % 18446744073709551616, ⟨by omega, by rw [e6]; exact hinv⟩, .back rfl ?_⟩
            simp +contextual only [go_sem, ↓reduceIte, Nat.reduceEqDiff, Nat.reduceAdd, Nat.reduceLeDiff, Nat.reduceLT, reduceCtorEq, hw]
          · rw [if_neg hdg] at hinv
            rw [← hinv]
            by_cases h48 : x.toNat < 48
            · have b1 : decide (((x.toNat : Nat) : Int) < 48) = true := by simp; omega
              simp +contextual only [go_sem, ↓reduceIte, Nat.reduceEqDiff, Nat.reduceAdd, Nat.reduceLeDiff, Nat.reduceLT, reduceCtorEq, k24, w4, w8, e4, e8, hgx, hit, Int.natCast_nonneg, Int.toNat_natCast, b1]
              rfl
            · have b1 : decide (((x.toNat : Nat) : Int) < 48) = false := by simp; omega
              have b2 : decide (((x.toNat : Nat) : Int) > 57) = true := by simp; omega
              simp +contextual only [go_sem, ↓reduceIte, Nat.reduceEqDiff, Nat.reduceAdd, Nat.reduceLeDiff, Nat.reduceLT, reduceCtorEq, k24, w4, w8, e4, e8, hgx, hit, Int.natCast_nonneg, Int.toNat_natCast, b1, b2]
              rfl
  | false =>
    rw [hne] at hneg hneg'
    have htl' : tl = l := by
      rw [htl]; unfold tailR
      rw [if_neg (fun h => by have := hneg.1 h; cases this)]
    obtain ⟨t, ht⟩ : ∃ t, t = s := ⟨_, rfl⟩
    have hts : t.size = tl.length := by rw [ht, hsl, htl']
    have htb : t = bs tl := by rw [ht, hs, htl']
    subst ht
    have ht := htb
    have f4 : True := trivial
    have f5 : True := trivial
    by_cases hl2 : l = []
    · have f1 : decide ((t.size : Int) > 0) = false := by rw [hsl, hl2]; rfl
      have f2 : True := trivial
      have f3 : True := trivial
      obtain ⟨c, hc⟩ : ∃ c, c = bs (tl.drop (tl.length - 3)) := ⟨_, rfl⟩
      have x1 : t.extract (t.size - 3) t.size = c := by rw [hts, ht, bs_cut, List.take_of_length_le (Nat.le_refl _), hc]
      have hcd : c.data.toList = tl.drop (tl.length - 3) := by rw [hc, bs_data]
      have hcl : c.size ≤ 1000 := by rw [hc, bs_size]; simp; omega
      have hcs : c.size ≤ 9223372036854775807 := by omega
      have hcs2 : c.size ≤ 1000000 := by omega
      by_cases h9 : tl.length < 9
      · rw [if_pos (.inl h9)]
        have t1 : decide ((t.size : Int) < 9) = true := by simp; omega
        simp +contextual only [go_sem, ↓reduceIte, Nat.reduceEqDiff, Nat.reduceAdd, Nat.reduceLeDiff, Nat.reduceLT, reduceCtorEq, c24, k24, t1, x1, hcs, hcd, f1, f2, f3, f4, f5, f6, f7, Int.natCast_nonneg, Int.toNat_natCast, Int.toNat_zero, Int.le_refl, h41]
        try rfl
      have w3 : IntKind.i64.wrap ((t.size : Int) - 3) = ((t.size - 3 : Nat) : Int) := by rw [IntKind.wrap_i64]; omega
      have i1 : ((t.size - 3 : Nat) : Int) ≤ (t.size : Int) := by omega
      have i2 : (0 : Int) ≤ ((t.size - 3 : Nat) : Int) := by omega
      by_cases h24 : tl.length > 24
      · rw [if_pos (.inr (.inl h24))]
        have t1 : decide ((t.size : Int) < 9) = false := by simp; omega
        have t2 : decide ((t.size : Int) > 24) = true := by simp; omega
        simp +contextual only [go_sem, ↓reduceIte, Nat.reduceEqDiff, Nat.reduceAdd, Nat.reduceLeDiff, Nat.reduceLT, reduceCtorEq, c24, k24, t1, t2, w3, x1, i1, i2, hcs, hcd, f1, f2, f3, f4, f5, f6, f7, Int.natCast_nonneg, Int.toNat_natCast, Int.toNat_zero, Int.le_refl, h41]
        try rfl
      have t1 : decide ((t.size : Int) < 9) = false := by simp; omega
      have t2 : decide ((t.size : Int) > 24) = false := by simp; omega
      cases hcur : curOk (tl.drop (tl.length - 3)) with
      | false =>
        rw [if_pos (.inr (.inr rfl))]
        simp +contextual only [go_sem, ↓reduceIte, Nat.reduceEqDiff, Nat.reduceAdd, Nat.reduceLeDiff, Nat.reduceLT, reduceCtorEq, c24, k24, t1, t2, hcur, w3, x1, i1, i2, hcs, hcd, f1, f2, f3, f4, f5, f6, f7, Int.natCast_nonneg, Int.toNat_natCast, Int.toNat_zero, Int.le_refl, h41]
        try rfl
      | true =>
        rw [if_neg (by simp; omega)]
        simp +contextual only [go_sem, ↓reduceIte, Nat.reduceEqDiff, Nat.reduceAdd, Nat.reduceLeDiff, Nat.reduceLT, reduceCtorEq, c24, k24, t1, t2, hcur, w3, x1, i1, i2, hcs, hcd, f1, f2, f3, f4, f5, f6, f7, Int.natCast_nonneg, Int.toNat_natCast, Int.toNat_zero, Int.le_refl, h41]
        have w4 : IntKind.i64.wrap ((t.size : Int) - 4) = ((t.size - 4 : Nat) : Int) := by rw [IntKind.wrap_i64]; omega
        have w8 : IntKind.i64.wrap ((t.size : Int) - 8) = ((t.size - 8 : Nat) : Int) := by rw [IntKind.wrap_i64]; omega
        have htd : t.data.toList = tl := by rw [ht, bs_data]
        have hll : (tl.take (tl.length - 4)).length = tl.length - 4 := by simp
        refine TriI.loopL hg k24 (tl.take (tl.length - 4)) (fun i (a : Nat) => ⟨slotsL [(0, .sc (.string t)), (5, .sc (.int .i64 5)), (6, .sc (.bool false)), (7, .sc (.string t)), (8, .sc (.int .u64 (a : Nat))), (9, .sc (.int .i64 i))], objsL [], 0⟩)
          (fun xs a => a < 18446744073709551616 ∧ numI (tl.length - 8) (tl.length - 4 - xs.length) a xs = numI (tl.length - 8) 0 0 (tl.take (tl.length - 4))) 0 (.back rfl ?_) ⟨by omega, by rw [hll, Nat.sub_self]⟩ ?_ ?_
        · simp +contextual only [go_sem, ↓reduceIte, Nat.reduceEqDiff, Nat.reduceAdd, Nat.reduceLeDiff, Nat.reduceLT, reduceCtorEq]
          first | rfl | trivial
        · rintro a ⟨ha, hinv⟩
          rw [← hinv]
          have hnu : numI (tl.length - 8) (tl.length - 4 - ([] : List UInt8).length) a [] = some a := rfl
          rw [hnu]
          dsimp only
          have e4 : decide (((tl.length - 4 : Nat) : Int) < ((t.size - 4 : Nat) : Int)) = false := by simp; omega
          have sg := sg_ok false l a hneg
          rcases sg with ⟨g1, y, g2⟩ | ⟨v, hv, g1, g2⟩
          · rw [g1]
            simp +contextual only [go_sem, ↓reduceIte, Nat.reduceEqDiff, Nat.reduceAdd, Nat.reduceLeDiff, Nat.reduceLT, reduceCtorEq, k24, hll, w4, e4, h34, dec_u0, inU, ha, g2]
            rfl
          · rw [g1]
            dsimp only
            have hfm : fmtP v c = (bs (fmtL v (tl.drop (tl.length - 3))), 0) := by
              unfold fmtP; rw [hcd, if_pos hcur]
            have bneq : ((0 : Int) != 0) = false := rfl
            simp +contextual only [go_sem, ↓reduceIte, Nat.reduceEqDiff, Nat.reduceAdd, Nat.reduceLeDiff, Nat.reduceLT, reduceCtorEq, k24, hll, w4, e4, h34, dec_u0, inU, ha, g2, w3, x1, i1, i2, hcs, hcd, f1, f2, f3, f4, f5, f6, f7, Int.natCast_nonneg, Int.toNat_natCast, Int.toNat_zero, Int.le_refl, h41, h22, hv, hcs2, hfm, bneq]
            refine ⟨fun h => ?_, fun h => ⟨rfl, ?_⟩⟩
            · rw [if_neg]
              · rfl
              · intro e
                rw [e, hs] at h
                simp at h
            · rw [if_pos]
              · rw [hc]; rfl
              · have : bs (fmtL v (tl.drop (tl.length - 3))) = t := by simpa using h
                rw [hs] at this
                exact bs_inj.1 this
        · rintro i a x xs hdr hlt hx ⟨ha, hinv⟩
          rw [hll] at hlt
          have hxl : xs.length + 1 + i = tl.length - 4 := by
            have := congrArg List.length hdr
            rw [List.length_drop, hll, List.length_cons] at this
            omega
          have hw := wrap_nat hlt (by omega)
          have e4 : decide ((i : Int) < ((t.size - 4 : Nat) : Int)) = true := by simp; omega
          have hxt : t.data.toList[i]? = some x := by
            rw [htd]
            rw [List.getElem?_take, if_pos hlt] at hx
            exact hx
          have hgx := bytes_get hxt
          have hit : i < t.size := by omega
          have e5 : tl.length - 4 - (x :: xs).length = i := by rw [List.length_cons]; omega
          have e6 : tl.length - 4 - xs.length = i + 1 := by omega
          rw [e5, numI_cons] at hinv
          have hx8 := x.toNat_lt
          by_cases hm : i = tl.length - 8
          · have e8 : ((i : Int) == ((t.size - 8 : Nat) : Int)) = true := by simp; omega
            rw [if_pos hm] at hinv
            by_cases hdot : x = 46
            · have b1 : (((x.toNat : Nat) : Int) != 46) = false := by rw [hdot]; rfl
              rw [if_pos hdot] at hinv
              simp +contextual only [go_sem, ↓reduceIte, Nat.reduceEqDiff, Nat.reduceAdd, Nat.reduceLeDiff, Nat.reduceLT, reduceCtorEq, k24, w4, w8, e4, e8, hgx, hit, Int.natCast_nonneg, Int.toNat_natCast, b1]
              refine ⟨a, ⟨ha, by rw [e6]; exact hinv⟩, .back rfl ?_⟩
              simp +contextual only [go_sem, ↓reduceIte, Nat.reduceEqDiff, Nat.reduceAdd, Nat.reduceLeDiff, Nat.reduceLT, reduceCtorEq, hw]
            · have b1 : (((x.toNat : Nat) : Int) != 46) = true := by
                simp only [bne_iff_ne, ne_eq]
                intro h
                apply hdot
                apply UInt8.toNat_inj.1
                have : (46 : UInt8).toNat = 46 := rfl
                omega
              rw [if_neg hdot] at hinv
              rw [← hinv]
              simp +contextual only [go_sem, ↓reduceIte, Nat.reduceEqDiff, Nat.reduceAdd, Nat.reduceLeDiff, Nat.reduceLT, reduceCtorEq, k24, w4, w8, e4, e8, hgx, hit, Int.natCast_nonneg, Int.toNat_natCast, b1]
              rfl
          · have e8 : ((i : Int) == ((t.size - 8 : Nat) : Int)) = false := by simp; omega
            rw [if_neg hm] at hinv
            by_cases hdg : 48 ≤ x.toNat ∧ x.toNat ≤ 57
            · rw [if_pos hdg] at hinv
              have b1 : decide (((x.toNat : Nat) : Int) < 48) = false := by simp; omega
              have b2 : decide (((x.toNat : Nat) : Int) > 57) = false := by simp; omega
              have b3 : IntKind.u8.wrap (((x.toNat : Nat) : Int) - 48) = ((x.toNat - 48 : Nat) : Int) := by rw [IntKind.wrap_u8]; omega
              have b4 : IntKind.u64.wrap ((x.toNat - 48 : Nat) : Int) = ((x.toNat - 48 : Nat) : Int) := by rw [IntKind.wrap_u64]; omega
              have b5 : IntKind.u64.wrap (10 * (a : Int)) = ((10 * a % 18446744073709551616 : Nat) : Int) := by rw [IntKind.wrap_u64]; omega
              have b6 : IntKind.u64.wrap (((10 * a % 18446744073709551616 : Nat) : Int) + ((x.toNat - 48 : Nat) : Int)) = (((10 * a + (x.toNat - 48)) % 18446744073709551616 : Nat) : Int) := by rw [IntKind.wrap_u64]; omega
              simp +contextual only [go_sem, ↓reduceIte, Nat.reduceEqDiff, Nat.reduceAdd, Nat.reduceLeDiff, Nat.reduceLT, reduceCtorEq, k24, w4, w8, e4, e8, hgx, hit, Int.natCast_nonneg, Int.toNat_natCast, b1, b2, b3, b4, b5, b6]
              refine ⟨(10 * a + (x.toNat - 48)) % 18446744073709551616, ⟨by omega, by rw [e6]; exact hinv⟩, .back rfl ?_⟩
              simp +contextual only [go_sem, ↓reduceIte, Nat.reduceEqDiff, Nat.reduceAdd, Nat.reduceLeDiff, Nat.reduceLT, reduceCtorEq, hw]
            · rw [if_neg hdg] at hinv
              rw [← hinv]
              by_cases h48 : x.toNat < 48
              · have b1 : decide (((x.toNat : Nat) : Int) < 48) = true := by simp; omega
                simp +contextual only [go_sem, ↓reduceIte, Nat.reduceEqDiff, Nat.reduceAdd, Nat.reduceLeDiff, Nat.reduceLT, reduceCtorEq, k24, w4, w8, e4, e8, hgx, hit, Int.natCast_nonneg, Int.toNat_natCast, b1]
                rfl
              · have b1 : decide (((x.toNat : Nat) : Int) < 48) = false := by simp; omega
                have b2 : decide (((x.toNat : Nat) : Int) > 57) = true := by simp; omega
                simp +contextual only [go_sem, ↓reduceIte, Nat.reduceEqDiff, Nat.reduceAdd, Nat.reduceLeDiff, Nat.reduceLT, reduceCtorEq, k24, w4, w8, e4, e8, hgx, hit, Int.natCast_nonneg, Int.toNat_natCast, b1, b2]
                rfl
    · obtain ⟨b, l', hl2⟩ : ∃ b l', l = b :: l' := by
        cases l with
        | nil => exact absurd rfl hl2
        | cons b l' => exact ⟨b, l', rfl⟩
      have hpos : 0 < t.size := by rw [hsl, hl2]; simp
      have f1 : decide ((t.size : Int) > 0) = true := by simp; omega
      have f2 : (0 : Nat) < t.size := hpos
      have f3 : ((((t.get! 0).toNat : Nat) : Int) == 45) = false := by
        have e : t.get! 0 = b := by rw [hs, hl2]; rfl
        rw [e]
        simp only [beq_eq_false_iff_ne, ne_eq]
        intro h
        have : b = 45 := UInt8.toNat_inj.1 (by have : (45 : UInt8).toNat = 45 := rfl; omega)
        rw [hl2, this] at hneg
        have := hneg.1 rfl
        cases this
      obtain ⟨c, hc⟩ : ∃ c, c = bs (tl.drop (tl.length - 3)) := ⟨_, rfl⟩
      have x1 : t.extract (t.size - 3) t.size = c := by rw [hts, ht, bs_cut, List.take_of_length_le (Nat.le_refl _), hc]
      have hcd : c.data.toList = tl.drop (tl.length - 3) := by rw [hc, bs_data]
      have hcl : c.size ≤ 1000 := by rw [hc, bs_size]; simp; omega
      have hcs : c.size ≤ 9223372036854775807 := by omega
      have hcs2 : c.size ≤ 1000000 := by omega
      by_cases h9 : tl.length < 9
      · rw [if_pos (.inl h9)]
        have t1 : decide ((t.size : Int) < 9) = true := by simp; omega
        simp +contextual only [go_sem, ↓reduceIte, Nat.reduceEqDiff, Nat.reduceAdd, Nat.reduceLeDiff, Nat.reduceLT, reduceCtorEq, c24, k24, t1, x1, hcs, hcd, f1, f2, f3, f4, f5, f6, f7, Int.natCast_nonneg, Int.toNat_natCast, Int.toNat_zero, Int.le_refl, h41]
        try rfl
      have w3 : IntKind.i64.wrap ((t.size : Int) - 3) = ((t.size - 3 : Nat) : Int) := by rw [IntKind.wrap_i64]; omega
      have i1 : ((t.size - 3 : Nat) : Int) ≤ (t.size : Int) := by omega
      have i2 : (0 : Int) ≤ ((t.size - 3 : Nat) : Int) := by omega
      by_cases h24 : tl.length > 24
      · rw [if_pos (.inr (.inl h24))]
        have t1 : decide ((t.size : Int) < 9) = false := by simp; omega
        have t2 : decide ((t.size : Int) > 24) = true := by simp; omega
        simp +contextual only [go_sem, ↓reduceIte, Nat.reduceEqDiff, Nat.reduceAdd, Nat.reduceLeDiff, Nat.reduceLT, reduceCtorEq, c24, k24, t1, t2, w3, x1, i1, i2, hcs, hcd, f1, f2, f3, f4, f5, f6, f7, Int.natCast_nonneg, Int.toNat_natCast, Int.toNat_zero, Int.le_refl, h41]
        try rfl
      have t1 : decide ((t.size : Int) < 9) = false := by simp; omega
      have t2 : decide ((t.size : Int) > 24) = false := by simp; omega
      cases hcur : curOk (tl.drop (tl.length - 3)) with
      | false =>
        rw [if_pos (.inr (.inr rfl))]
        simp +contextual only [go_sem, ↓reduceIte, Nat.reduceEqDiff, Nat.reduceAdd, Nat.reduceLeDiff, Nat.reduceLT, reduceCtorEq, c24, k24, t1, t2, hcur, w3, x1, i1, i2, hcs, hcd, f1, f2, f3, f4, f5, f6, f7, Int.natCast_nonneg, Int.toNat_natCast, Int.toNat_zero, Int.le_refl, h41]
        try rfl
      | true =>
        rw [if_neg (by simp; omega)]
        simp +contextual only [go_sem, ↓reduceIte, Nat.reduceEqDiff, Nat.reduceAdd, Nat.reduceLeDiff, Nat.reduceLT, reduceCtorEq, c24, k24, t1, t2, hcur, w3, x1, i1, i2, hcs, hcd, f1, f2, f3, f4, f5, f6, f7, Int.natCast_nonneg, Int.toNat_natCast, Int.toNat_zero, Int.le_refl, h41]
        have w4 : IntKind.i64.wrap ((t.size : Int) - 4) = ((t.size - 4 : Nat) : Int) := by rw [IntKind.wrap_i64]; omega
        have w8 : IntKind.i64.wrap ((t.size : Int) - 8) = ((t.size - 8 : Nat) : Int) := by rw [IntKind.wrap_i64]; omega
        have htd : t.data.toList = tl := by rw [ht, bs_data]
        have hll : (tl.take (tl.length - 4)).length = tl.length - 4 := by simp
        refine TriI.loopL hg k24 (tl.take (tl.length - 4)) (fun i (a : Nat) => ⟨slotsL [(0, .sc (.string t)), (5, .sc (.int .i64 5)), (6, .sc (.bool false)), (7, .sc (.string t)), (8, .sc (.int .u64 (a : Nat))), (9, .sc (.int .i64 i))], objsL [], 0⟩)
          (fun xs a => a < 18446744073709551616 ∧ numI (tl.length - 8) (tl.length - 4 - xs.length) a xs = numI (tl.length - 8) 0 0 (tl.take (tl.length - 4))) 0 (.back rfl ?_) ⟨by omega, by rw [hll, Nat.sub_self]⟩ ?_ ?_
        · simp +contextual only [go_sem, ↓reduceIte, Nat.reduceEqDiff, Nat.reduceAdd, Nat.reduceLeDiff, Nat.reduceLT, reduceCtorEq]
          first | rfl | trivial
        · rintro a ⟨ha, hinv⟩
          rw [← hinv]
          have hnu : numI (tl.length - 8) (tl.length - 4 - ([] : List UInt8).length) a [] = some a := rfl
          rw [hnu]
          dsimp only
          have e4 : decide (((tl.length - 4 : Nat) : Int) < ((t.size - 4 : Nat) : Int)) = false := by simp; omega
          have sg := sg_ok false l a hneg
          rcases sg with ⟨g1, y, g2⟩ | ⟨v, hv, g1, g2⟩
          · rw [g1]
            simp +contextual only [go_sem, ↓reduceIte, Nat.reduceEqDiff, Nat.reduceAdd, Nat.reduceLeDiff, Nat.reduceLT, reduceCtorEq, k24, hll, w4, e4, h34, dec_u0, inU, ha, g2]
            rfl
          · rw [g1]
            dsimp only
            have hfm : fmtP v c = (bs (fmtL v (tl.drop (tl.length - 3))), 0) := by
              unfold fmtP; rw [hcd, if_pos hcur]
            have bneq : ((0 : Int) != 0) = false := rfl
            simp +contextual only [go_sem, ↓reduceIte, Nat.reduceEqDiff, Nat.reduceAdd, Nat.reduceLeDiff, Nat.reduceLT, reduceCtorEq, k24, hll, w4, e4, h34, dec_u0, inU, ha, g2, w3, x1, i1, i2, hcs, hcd, f1, f2, f3, f4, f5, f6, f7, Int.natCast_nonneg, Int.toNat_natCast, Int.toNat_zero, Int.le_refl, h41, h22, hv, hcs2, hfm, bneq]
            refine ⟨fun h => ?_, fun h => ⟨rfl, ?_⟩⟩
            · rw [if_neg]
              · rfl
              · intro e
                rw [e, hs] at h
                simp at h
            · rw [if_pos]
              · rw [hc]; rfl
              · have : bs (fmtL v (tl.drop (tl.length - 3))) = t := by simpa using h
                rw [hs] at this
                exact bs_inj.1 this
        · rintro i a x xs hdr hlt hx ⟨ha, hinv⟩
          rw [hll] at hlt
          have hxl : xs.length + 1 + i = tl.length - 4 := by
            have := congrArg List.length hdr
            rw [List.length_drop, hll, List.length_cons] at this
            omega
          have hw := wrap_nat hlt (by omega)
          have e4 : decide ((i : Int) < ((t.size - 4 : Nat) : Int)) = true := by simp; omega
          have hxt : t.data.toList[i]? = some x := by
            rw [htd]
            rw [List.getElem?_take, if_pos hlt] at hx
            exact hx
          have hgx := bytes_get hxt
          have hit : i < t.size := by omega
          have e5 : tl.length - 4 - (x :: xs).length = i := by rw [List.length_cons]; omega
          have e6 : tl.length - 4 - xs.length = i + 1 := by omega
          rw [e5, numI_cons] at hinv
          have hx8 := x.toNat_lt
          by_cases hm : i = tl.length - 8
          · have e8 : ((i : Int) == ((t.size - 8 : Nat) : Int)) = true := by simp; omega
            rw [if_pos hm] at hinv
            by_cases hdot : x = 46
            · have b1 : (((x.toNat : Nat) : Int) != 46) = false := by rw [hdot]; rfl
              rw [if_pos hdot] at hinv
              simp +contextual only [go_sem, ↓reduceIte, Nat.reduceEqDiff, Nat.reduceAdd, Nat.reduceLeDiff, Nat.reduceLT, reduceCtorEq, k24, w4, w8, e4, e8, hgx, hit, Int.natCast_nonneg, Int.toNat_natCast, b1]
              refine ⟨a, ⟨ha, by rw [e6]; exact hinv⟩, .back rfl ?_⟩
              simp +contextual only [go_sem, ↓reduceIte, Nat.reduceEqDiff, Nat.reduceAdd, Nat.reduceLeDiff, Nat.reduceLT, reduceCtorEq, hw]
            · have b1 : (((x.toNat : Nat) : Int) != 46) = true := by
                simp only [bne_iff_ne, ne_eq]
                intro h
                apply hdot
                apply UInt8.toNat_inj.1
                have : (46 : UInt8).toNat = 46 := rfl
                omega
              rw [if_neg hdot] at hinv
              rw [← hinv]
              simp +contextual only [go_sem, ↓reduceIte, Nat.reduceEqDiff, Nat.reduceAdd, Nat.reduceLeDiff, Nat.reduceLT, reduceCtorEq, k24, w4, w8, e4, e8, hgx, hit, Int.natCast_nonneg, Int.toNat_natCast, b1]
              rfl
          · have e8 : ((i : Int) == ((t.size - 8 : Nat) : Int)) = false := by simp; omega
            rw [if_neg hm] at hinv
            by_cases hdg : 48 ≤ x.toNat ∧ x.toNat ≤ 57
            · rw [if_pos hdg] at hinv
              have b1 : decide (((x.toNat : Nat) : Int) < 48) = false := by simp; omega
              have b2 : decide (((x.toNat : Nat) : Int) > 57) = false := by simp; omega
              have b3 : IntKind.u8.wrap (((x.toNat : Nat) : Int) - 48) = ((x.toNat - 48 : Nat) : Int) := by rw [IntKind.wrap_u8]; omega
              have b4 : IntKind.u64.wrap ((x.toNat - 48 : Nat) : Int) = ((x.toNat - 48 : Nat) : Int) := by rw [IntKind.wrap_u64]; omega
              have b5 : IntKind.u64.wrap (10 * (a : Int)) = ((10 * a % 18446744073709551616 : Nat) : Int) := by rw [IntKind.wrap_u64]; omega
              have b6 : IntKind.u64.wrap (((10 * a % 18446744073709551616 : Nat) : Int) + ((x.toNat - 48 : Nat) : Int)) = (((10 * a + (x.toNat - 48)) % 18446744073709551616 : Nat) : Int) := by rw [IntKind.wrap_u64]; omega
              simp +contextual only [go_sem, ↓reduceIte, Nat.reduceEqDiff, Nat.reduceAdd, Nat.reduceLeDiff, Nat.reduceLT, reduceCtorEq, k24, w4, w8, e4, e8, hgx, hit, Int.natCast_nonneg, Int.toNat_natCast, b1, b2, b3, b4, b5, b6]
              refine ⟨(10 * a + (x.toNat - 48)) % 18446744073709551616, ⟨by omega, by rw [e6]; exact hinv⟩, .back rfl ?_⟩
              simp +contextual only [go_sem, ↓reduceIte, Nat.reduceEqDiff, Nat.reduceAdd, Nat.reduceLeDiff, Nat.reduceLT, reduceCtorEq, hw]
            · rw [if_neg hdg] at hinv
              rw [← hinv]
              by_cases h48 : x.toNat < 48
              · have b1 : decide (((x.toNat : Nat) : Int) < 48) = true := by simp; omega
                simp +contextual only [go_sem, ↓reduceIte, Nat.reduceEqDiff, Nat.reduceAdd, Nat.reduceLeDiff, Nat.reduceLT, reduceCtorEq, k24, w4, w8, e4, e8, hgx, hit, Int.natCast_nonneg, Int.toNat_natCast, b1]
                rfl
              · have b1 : decide (((x.toNat : Nat) : Int) < 48) = false := by simp; omega
                have b2 : decide (((x.toNat : Nat) : Int) > 57) = true := by simp; omega
                simp +contextual only [go_sem, ↓reduceIte, Nat.reduceEqDiff, Nat.reduceAdd, Nat.reduceLeDiff, Nat.reduceLT, reduceCtorEq, k24, w4, w8, e4, e8, hgx, hit, Int.natCast_nonneg, Int.toNat_natCast, b1, b2]
                rfl
end Go.Proofs.YtfmeplnoikfndaaDoor
