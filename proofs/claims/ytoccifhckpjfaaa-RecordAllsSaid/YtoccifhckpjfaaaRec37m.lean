/- Records, the reference: the end of a transaction. -/
import Derived.Test.YtoccifhckpjfaaaRec37l
namespace Go.Proofs.Ytoccifhckpjfaaa
set_option linter.all false
open Go.Idl
set_option maxHeartbeats 16000000
set_option maxRecDepth 100000
theorem agEv37 : agOf Try.prog 27 = some (some 10) := by kernel_rfl
attribute [local go_sem] agEv37 Try.underlying3 Try.underlying5 Try.underlying9 Try.underlying4 Try.underlying30 Try.underlying22 Try.underlying25
def fe : List EvD → Nat → Int
  | [], _ => -1
  | x :: l, i => bif x.kind == 3 then (i : Int) else fe l (i + 1)
theorem fe_spec : ∀ (l : List EvD) (i : Nat), (fe l i = -1 ∧ ∀ x, x ∈ l → x.kind ≠ 3) ∨ ∃ (a : List EvD) (x : EvD) (b : List EvD), l = a ++ x :: b ∧ fe l i = ((i + a.length : Nat) : Int) ∧ x.kind = 3 ∧ ∀ y, y ∈ a → y.kind ≠ 3
  | [], i => .inl ⟨rfl, by simp⟩
  | x :: l, i => by
    rw [fe]
    cases hk : (x.kind == 3) with
    | true => exact .inr ⟨[], x, l, rfl, by simp, by simpa using hk, by simp⟩
    | false =>
      have hx : x.kind ≠ 3 := by simpa using hk
      rw [cond_false]
      rcases fe_spec l (i + 1) with ⟨h1, h2⟩ | ⟨a, y, b, h1, h2, h3, h4⟩
      · exact .inl ⟨h1, fun z hz => by rcases List.mem_cons.1 hz with rfl | hz; exact hx; exact h2 z hz⟩
      · refine .inr ⟨x :: a, y, b, by rw [h1]; rfl, by rw [h2]; simp; omega, h3, fun z hz => ?_⟩
        rcases List.mem_cons.1 hz with rfl | hz
        · exact hx
        · exact h4 z hz
def badW (E c : EvD) (x : EvD) : Bool := decide (x.seq > E.seq) || x.conn != c.conn
def cplW (l : List EvD) : EvD × Int := bif decide (fe l 0 < 0) || (hdE l).seq != 0 then (dfE, 22) else bif l.any (badW (atE l (fe l 0).toNat) (hdE l)) then (dfE, 1) else (atE l (fe l 0).toNat, 0)
abbrev zeroB : V := .agg [.sc (.string ⟨#[]⟩), .sc (.string ⟨#[]⟩), .sc (.int .i64 0), .sc (.int .i64 0), .sc (.int .i64 0), .sc (.int .i64 0), .sc (.string ⟨#[]⟩), .sc (.bool false), .sc (.int .i64 0), .sc (.slice none 0 0)]
abbrev SCplW : List V → Option V := FT fun (t : List EvD × Unit) => if 1 ≤ t.1.length ∧ t.1.length ≤ 100000 then some (cplW t.1) else none
theorem con46 {Φ : Specs} (hg : Idl.Good Try.prog Φ) : Contract Try.prog 46 SCplW := by
  refine conT hg k46 ic46 (by decide) fun C t r h => ?_
  obtain ⟨l, u⟩ := t
  dsimp only at h
  by_cases hp : 1 ≤ l.length ∧ l.length ≤ 100000
  case neg => rw [if_neg hp] at h; cases h
  rw [if_pos hp] at h
  obtain ⟨hl1, hl⟩ := hp
  cases h
  obtain ⟨x0, hx0⟩ : ∃ x0, l[0]? = some x0 := ⟨l[0]'(by omega), by simp⟩
  have hhd : hdE l = x0 := by rw [hdE, List.head?_eq_getElem?, hx0]; rfl
  simp +contextual only [go_sem, ↓reduceIte, Nat.reduceEqDiff, Nat.reduceAdd, Nat.reduceLeDiff, Nat.reduceLT, reduceCtorEq, c46, k46]
  refine TriI.loopL hg k46 l (fun i (e : Int) => ⟨slotsL [(0, Cod.enc l), (2, .ref 0 0 0), (3, .sc (.int .i64 0)), (4, .sc (.int .i64 e)), (9, Cod.enc l), (10, .sc (.int .i64 l.length)), (11, .sc (.int .i64 i))], objsL [.live 10 [zeroB] true], 1⟩)
    (fun xs e => (e = -1 ∧ fe xs (l.length - xs.length) = fe l 0) ∨ (0 ≤ e ∧ fe l 0 = e)) (-1) (.back rfl ?_) (.inl ⟨rfl, by rw [Nat.sub_self]⟩) ?_ ?_
  · simp +contextual only [go_sem, ↓reduceIte, Nat.reduceEqDiff, Nat.reduceAdd, Nat.reduceLeDiff, Nat.reduceLT, reduceCtorEq, List.length_map]
    rfl
  · rintro e he
    have hfe : fe l 0 = e := by
      rcases he with ⟨h1, h2⟩ | ⟨h1, h2⟩
      · rw [← h2, h1]; rfl
      · exact h2
    cases h1 : decide (e < 0)
    · have hge : 0 ≤ e := by simpa using h1
      obtain ⟨j, rfl⟩ := Int.eq_ofNat_of_zero_le hge
      obtain ⟨a, E, b, q1, q2, q3, q4⟩ := (fe_spec l 0).resolve_left (by rw [hfe]; omega)
      have hj : j = a.length := by rw [hfe] at q2; omega
      have hE : l[j]? = some E := by rw [q1, hj]; simp
      have hjl : j < l.length := (List.getElem?_eq_some_iff.1 hE).1
      have hat : atE l (fe l 0).toNat = E := by rw [hfe, Int.toNat_natCast, atE, hE]; rfl
      have hcw : cplW l = bif x0.seq != 0 then (dfE, 22) else bif l.any (badW E x0) then (dfE, 1) else (E, 0) := by
        rw [cplW, hat, hhd, hfe, h1, Bool.false_or]
      rw [hcw]
      cases h2 : (x0.seq != 0)
      · rw [cond_false]
        simp +contextual only [go_sem, ↓reduceIte, Nat.reduceEqDiff, Nat.reduceAdd, Nat.reduceLeDiff, Nat.reduceLT, reduceCtorEq, k46, Int.lt_irrefl, decide_false, h1, h2, hx0, List.length_map, List.getElem?_map, Option.map_some, Int.natCast_nonneg, Int.toNat_natCast, Int.toNat_zero, Int.le_refl]
        refine TriI.loopL hg k46 l (fun i (_ : Unit) => ⟨slotsL [(0, Cod.enc l), (2, .ref 0 0 0), (3, .sc (.int .i64 0)), (4, .sc (.int .i64 j)), (35, Cod.enc l), (36, .sc (.int .i64 l.length)), (37, .sc (.int .i64 i))], objsL [.live 10 [zeroB] true], 1⟩)
          (fun xs _ => xs.any (badW E x0) = l.any (badW E x0)) () (.back rfl ?_) rfl ?_ ?_
        · simp +contextual only [go_sem, ↓reduceIte, Nat.reduceEqDiff, Nat.reduceAdd, Nat.reduceLeDiff, Nat.reduceLT, reduceCtorEq, List.length_map]
          rfl
        · rintro _ hinv
          have hb0 : l.any (badW E x0) = false := hinv.symm
          rw [hb0, cond_false]
          simp +contextual only [go_sem, ↓reduceIte, Nat.reduceEqDiff, Nat.reduceAdd, Nat.reduceLeDiff, Nat.reduceLT, reduceCtorEq, k46, Int.lt_irrefl, decide_false, hE, List.length_map, List.getElem?_map, Option.map_some, Int.natCast_nonneg, Int.toNat_natCast]
        · rintro i _ x xs hd hlt hx hinv
          have hw := wrap_nat hlt (by omega)
          have hbx : (x :: xs).any (badW E x0) = (badW E x0 x || xs.any (badW E x0)) := rfl
          cases h3 : decide (x.seq > E.seq) <;> cases h4 : (x.conn != x0.conn)
          all_goals simp +contextual only [go_sem, ↓reduceIte, Nat.reduceEqDiff, Nat.reduceAdd, Nat.reduceLeDiff, Nat.reduceLT, reduceCtorEq, k46, lt_dec hlt, hx, hx0, hE, hw, h3, h4, List.length_map, List.getElem?_map, Option.map_some, Int.natCast_nonneg, Int.toNat_natCast, Int.toNat_zero, Int.le_refl]
          · exact ⟨by rfl, (), by rw [← hinv, hbx, badW, h3, h4]; rfl, .back rfl (by simp +contextual only [go_sem, ↓reduceIte, Nat.reduceEqDiff, Nat.reduceAdd, Nat.reduceLeDiff, Nat.reduceLT, reduceCtorEq])⟩
          all_goals
            refine ⟨by rfl, ?_⟩
            have hbw : badW E x0 x = true := by rw [badW, h3, h4]; rfl
            rw [← hinv, hbx, hbw]; rfl
      · rw [cond_true]
        simp +contextual only [go_sem, ↓reduceIte, Nat.reduceEqDiff, Nat.reduceAdd, Nat.reduceLeDiff, Nat.reduceLT, reduceCtorEq, k46, Int.lt_irrefl, decide_false, h1, h2, hx0, List.length_map, List.getElem?_map, Option.map_some, Int.natCast_nonneg, Int.toNat_natCast, Int.toNat_zero, Int.le_refl]
        rfl
    · have hcw : cplW l = (dfE, 22) := by rw [cplW, hfe, h1, Bool.true_or, cond_true]
      rw [hcw]
      simp +contextual only [go_sem, ↓reduceIte, Nat.reduceEqDiff, Nat.reduceAdd, Nat.reduceLeDiff, Nat.reduceLT, reduceCtorEq, k46, Int.lt_irrefl, decide_false, h1, List.length_map]
      rfl
  · rintro i e x xs hd hlt hx he
    have hw := wrap_nat hlt (by omega)
    have hxs : l.length - (x :: xs).length = i ∧ l.length - xs.length = i + 1 := by have := congrArg List.length hd; simp at this ⊢; omega
    have hfx : fe (x :: xs) i = bif x.kind == 3 then (i : Int) else fe xs (i + 1) := rfl
    rw [hxs.1] at he
    cases h3 : (x.kind == 3) <;> cases h4 : decide (e < 0)
    all_goals simp +contextual only [go_sem, ↓reduceIte, Nat.reduceEqDiff, Nat.reduceAdd, Nat.reduceLeDiff, Nat.reduceLT, reduceCtorEq, k46, lt_dec hlt, hx, hw, h3, h4, List.length_map, List.getElem?_map, Option.map_some, Int.natCast_nonneg, Int.toNat_natCast]
    · exact ⟨e, .inr (he.resolve_left fun h => by rw [h.1] at h4; simp at h4), .back rfl (by simp +contextual only [go_sem, ↓reduceIte, Nat.reduceEqDiff, Nat.reduceAdd, Nat.reduceLeDiff, Nat.reduceLT, reduceCtorEq])⟩
    · refine ⟨e, .inl ?_, .back rfl (by simp +contextual only [go_sem, ↓reduceIte, Nat.reduceEqDiff, Nat.reduceAdd, Nat.reduceLeDiff, Nat.reduceLT, reduceCtorEq])⟩
      have h1 := he.resolve_right fun h => by have := h.1; simp at h4; omega
      refine ⟨h1.1, ?_⟩
      rw [← h1.2, hxs.2, hfx, h3, cond_false]
    · exact ⟨e, .inr (he.resolve_left fun h => by rw [h.1] at h4; simp at h4), .back rfl (by simp +contextual only [go_sem, ↓reduceIte, Nat.reduceEqDiff, Nat.reduceAdd, Nat.reduceLeDiff, Nat.reduceLT, reduceCtorEq])⟩
    · refine ⟨(i : Int), .inr ⟨by omega, ?_⟩, .back rfl (by simp +contextual only [go_sem, ↓reduceIte, Nat.reduceEqDiff, Nat.reduceAdd, Nat.reduceLeDiff, Nat.reduceLT, reduceCtorEq])⟩
      have h1 := he.resolve_right fun h => by have := h.1; simp at h4; omega
      rw [← h1.2, hfx, h3, cond_true]
end Go.Proofs.Ytoccifhckpjfaaa
