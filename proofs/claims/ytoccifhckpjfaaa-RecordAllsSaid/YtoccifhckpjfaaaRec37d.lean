/- Records: Make. -/
import Derived.Test.YtoccifhckpjfaaaRec37c
namespace Go.Proofs.Ytoccifhckpjfaaa
set_option linter.all false
open Go.Idl
set_option maxHeartbeats 8000000
set_option maxRecDepth 100000
attribute [local go_sem] Try.underlying3 Try.underlying5 Try.underlying9 Try.underlying4 Try.underlying30 Try.underlying22 Try.underlying25
theorem agRec : agOf Try.prog 29 = some (some 11) := by kernel_rfl
attribute [local go_sem] agRec
theorem dedE_ok : ∀ {xs out : List EvD} {p : Option EvD} {es : List EvD}, dedE out p xs = some es → (∀ y, y ∈ es → y ∈ out ∨ y ∈ xs) ∧ es.length ≤ out.length + xs.length ∧ out.length ≤ es.length ∧ (p = none → xs ≠ [] → out.length + 1 ≤ es.length)
  | [], out, p, es, h => by
    have : es = out := by cases p <;> (simp only [dedE, Option.some.injEq] at h; exact h.symm)
    subst this
    exact ⟨fun y hy => .inl hy, by simp, Nat.le_refl _, fun _ h => absurd rfl h⟩
  | x :: l, out, none, es, h => by
    simp only [dedE] at h
    obtain ⟨h1, h2, h3, _⟩ := dedE_ok h
    simp only [List.length_append, List.length_cons, List.length_nil] at h2 h3
    refine ⟨fun y hy => ?_, by simp; omega, by omega, fun _ _ => by omega⟩
    rcases h1 y hy with g | g
    · rcases List.mem_append.1 g with g | g
      · exact .inl g
      · exact .inr (by simp at g; simp [g])
    · exact .inr (List.mem_cons_of_mem _ g)
  | x :: l, out, some y, es, h => by
    simp only [dedE] at h
    cases hs : (y.seq != x.seq) with
    | true =>
      rw [hs, cond_true] at h
      obtain ⟨h1, h2, h3, _⟩ := dedE_ok h
      simp only [List.length_append, List.length_cons, List.length_nil] at h2 h3
      refine ⟨fun y hy => ?_, by simp; omega, by omega, fun h _ => by cases h⟩
      rcases h1 y hy with g | g
      · rcases List.mem_append.1 g with g | g
        · exact .inl g
        · exact .inr (by simp at g; simp [g])
      · exact .inr (List.mem_cons_of_mem _ g)
    | false =>
      rw [hs, cond_false] at h
      cases he : sameE y x with
      | true =>
        rw [he, cond_true] at h
        obtain ⟨h1, h2, h3, _⟩ := dedE_ok h
        refine ⟨fun y hy => ?_, by simp; omega, by omega, fun h _ => by cases h⟩
        rcases h1 y hy with g | g
        · exact .inl g
        · exact .inr (List.mem_cons_of_mem _ g)
      | false => rw [he, cond_false] at h; cases h
theorem orderS_ok {l : List EvD} (h1 : 1 ≤ l.length) (h : (orderS l).2 = 0) : badE l = 0 ∧ (∀ x, x ∈ (orderS l).1 → x ∈ l) ∧ (orderS l).1.length ≤ l.length ∧ 1 ≤ (orderS l).1.length := by
  unfold orderS at h ⊢
  cases hb : (badE l != 0) with
  | true =>
    rw [hb, cond_true] at h
    have h' : badE l = 0 := h
    rw [h'] at hb; cases hb
  | false =>
    rw [hb, cond_false] at h
    have hb0 : badE l = 0 := by simpa using hb
    rw [cond_false]
    cases hk : l.all (fun x => (l.head?.map (keyEq x)).getD true) with
    | false => rw [hk, cond_false] at h; cases h
    | true =>
      rw [hk, cond_true] at h
      rw [cond_true]
      cases hd : dedE [] none (sortS l) with
      | none => rw [hd] at h; cases h
      | some es =>
        obtain ⟨g1, g2, _, g4⟩ := dedE_ok hd
        have hl := (sortS_perm l).length_eq
        have hne : sortS l ≠ [] := by intro h0; rw [h0] at hl; simp at hl; omega
        have := g4 rfl hne
        simp only [List.length_nil] at g2 this
        refine ⟨hb0, fun x hx => ?_, by dsimp only; omega, by dsimp only; omega⟩
        exact (sortS_perm l).mem_iff.1 ((g1 x hx).resolve_left (by simp))
theorem okRd_of {l : List EvD} (h : ∀ x, x ∈ l → evS x = 0) : okRd l = true := by
  rw [okRd, List.all_eq_true]
  intro x hx
  rw [decide_eq_true_eq]
  have := (evS_ok (h x hx)).2.2
  omega
theorem mrgE_len : ∀ {l : List EvD} {acc : List Rdg}, (mrgE acc l).2 = 0 → acc.length ≤ 1024 → (mrgE acc l).1.length ≤ 1024
  | [], acc, _, h => h
  | x :: l, acc, h, _ => by
    rw [mrgE] at h ⊢
    cases hs : ((mrgS acc x.rds).2 != 0) with
    | true => rw [hs, cond_true] at h; have h' : (mrgS acc x.rds).2 = 0 := h; rw [h'] at hs; cases hs
    | false =>
      rw [hs, cond_false] at h
      rw [cond_false]
      exact mrgE_len h (mrgS_len (by simpa using hs))
abbrev zeroA : V := .agg [.sc (.string ⟨#[]⟩), .sc (.string ⟨#[]⟩), .sc (.int .i64 0), .sc (.string ⟨#[]⟩), .sc (.int .i64 0), .sc (.int .i64 0), .sc (.slice none 0 0), .sc (.int .i64 0), .sc (.int .i64 0), .sc (.bool false), .sc (.bool false)]
abbrev SMake : List V → Option V := FT fun (t : List EvD × Int × Unit) => if t.1.length ≤ 100000 then some (makeS t.1 t.2.1) else none
theorem con9 {Φ : Specs} (hg : Idl.Good Try.prog Φ) (h16 : Φ 16 = some SOrd) (h17 : Φ 17 = some SCompl) (h18 : Φ 18 = some SMrgE) (h19 : Φ 19 = some STot) : Contract Try.prog 9 SMake := by
  refine conT hg k9 ic9 (by decide) fun C t r h => ?_
  obtain ⟨l, m, u⟩ := t
  dsimp only at h
  by_cases hl : l.length ≤ 100000
  case neg => rw [if_neg hl] at h; cases h
  rw [if_pos hl] at h
  cases h
  by_cases h0 : l.length = 0
  · have hd0 : decide (l.length = 0) = true := by simp [h0]
    have hz : (((l.length : Nat) : Int) == 0) = true := by rw [h0]; rfl
    have hm : makeS l m = (zeroR, 8) := by rw [makeS, hd0, cond_true]
    rw [hm]
    simp +contextual only [go_sem, ↓reduceIte, Nat.reduceEqDiff, Nat.reduceAdd, Nat.reduceLeDiff, Nat.reduceLT, reduceCtorEq, c9, k9, hz, List.length_map]
    rfl
  · have hd0 : decide (l.length = 0) = false := by simp [h0]
    have hz : (((l.length : Nat) : Int) == 0) = false := by simp; intro h; exact h0 (by simp [h])
    have hpre : 1 ≤ l.length ∧ l.length ≤ 100000 := ⟨by omega, hl⟩
    have hm : makeS l m = bif (orderS l).2 != 0 then (zeroR, (orderS l).2) else makeE (orderS l).1 m := by rw [makeS, hd0, cond_false]
    rw [hm]
    cases ho : ((orderS l).2 != 0) with
    | true =>
      rw [cond_true]
      simp +contextual only [go_sem, ↓reduceIte, Nat.reduceEqDiff, Nat.reduceAdd, Nat.reduceLeDiff, Nat.reduceLT, reduceCtorEq, c9, k9, hz, hpre, ho, h16, and_self, List.length_map]
      rfl
    | false =>
      rw [cond_false]
      obtain ⟨g1, g2, g3, g4⟩ := orderS_ok hpre.1 (by simpa using ho)
      have hok : okRd (orderS l).1 = true := okRd_of fun x hx => badE_zero g1 x (g2 x hx)
      generalize hes : (orderS l).1 = es at *
      have hc1 : es.length ≤ 1000000 := by omega
      have hmp : es.length ≤ 1000000 ∧ okRd es = true := ⟨hc1, hok⟩
      obtain ⟨s, hs⟩ : ∃ s, es[0]? = some s := ⟨es[0]'(by omega), by simp⟩
      obtain ⟨e, he⟩ : ∃ e, es[es.length - 1]? = some e := ⟨es[es.length - 1]'(by omega), by simp⟩
      have hhd : hdE es = s := by rw [hdE, List.head?_eq_getElem?, hs]; rfl
      have hlt : ltE es = e := by rw [ltE, List.getLast?_eq_getElem?, he]; rfl
      have hw1 : IntKind.i64.wrap (((es.length : Nat) : Int) - 1) = ((es.length - 1 : Nat) : Int) := by rw [IntKind.wrap_i64]; omega
      have hlz : ((es.length - 1 : Nat) : Int) < ((es.length : Nat) : Int) := by omega
      have hmk : makeE es m = bif !complS es then (zeroR, 22) else bif badM s.conn es then (zeroR, 1) else bif (mrgE [] es).2 != 0 then (zeroR, (mrgE [] es).2) else
          bif rdOff s e (mrgE [] es).1 then (zeroR, 1) else bif (totS (mrgE [] es).1 m).2 != 0 then (zeroR, (totS (mrgE [] es).1 m).2) else
          bif decide ((totS (mrgE [] es).1 m).1 > 1099511627776) then (zeroR, 2) else (recOf s e (offS es) (mrgE [] es).1 (totS (mrgE [] es).1 m).1, 0) := by rw [makeE, hhd, hlt]
      rw [hmk]
      cases hcs : complS es with
      | false =>
        rw [Bool.not_false, cond_true]
        simp +contextual only [go_sem, ↓reduceIte, Nat.reduceEqDiff, Nat.reduceAdd, Nat.reduceLeDiff, Nat.reduceLT, reduceCtorEq, c9, k9, hz, hpre, ho, hes, hc1, hcs, h16, h17, Bool.not_false, and_self, List.length_map]
        rfl
      | true =>
        rw [Bool.not_true, cond_false]
        simp +contextual only [go_sem, ↓reduceIte, Nat.reduceEqDiff, Nat.reduceAdd, Nat.reduceLeDiff, Nat.reduceLT, reduceCtorEq, c9, k9, hz, hpre, ho, hes, hc1, hcs, hs, he, hw1, h16, h17, Bool.not_true, and_self, List.length_map, List.getElem?_map, Option.map_some, Int.natCast_nonneg, Int.toNat_natCast, Int.toNat_zero, Int.le_refl]
        refine ⟨by rfl, ?_⟩
        refine TriI.loopL hg k9 es (fun i (o : Bool) => ⟨slotsL [(1, .sc (.int .i64 m)), (4, .ref 0 0 0), (5, .sc (.int .i64 0)), (6, Cod.enc es), (8, .ref 1 0 0), (9, .ref 2 0 0), (10, .sc (.bool o)), (41, Cod.enc es), (42, .sc (.int .i64 es.length)), (43, .sc (.int .i64 i))], objsL [.live 11 [zeroA] true, .live 10 [Cod.enc s] true, .live 10 [Cod.enc e] true], 3⟩)
          (fun xs o => badM s.conn xs = badM s.conn es ∧ (o || offS xs) = offS es) false (.ren [some 0, some 10, some 11] rfl rfl 1 ?_) ⟨rfl, rfl⟩ ?_ ?_
        · simp +contextual only [go_sem, ↓reduceIte, Nat.reduceEqDiff, Nat.reduceAdd, Nat.reduceLeDiff, Nat.reduceLT, reduceCtorEq, List.length_map]
          rfl
        · rintro o ⟨h1, h2⟩
          have hbm : badM s.conn es = false := by rw [← h1]; rfl
          have hof : offS es = o := by rw [← h2]; simp [offS]
          rw [hbm, hof, cond_false]
          cases hme : ((mrgE [] es).2 != 0) with
          | true =>
            rw [cond_true]
            simp +contextual only [go_sem, ↓reduceIte, Nat.reduceEqDiff, Nat.reduceAdd, Nat.reduceLeDiff, Nat.reduceLT, reduceCtorEq, k9, Int.lt_irrefl, decide_false, hmp, hme, h18, and_self, List.length_map]
            rfl
          | false =>
            rw [cond_false]
            generalize hgg : mrgE [] es = gg at *
            obtain ⟨g, ge⟩ := gg
            dsimp only at hme ⊢
            by_cases hg0 : g.length = 0
            · have e1 : (((g.length : Nat) : Int) == 0) = true := by rw [hg0]; rfl
              have e2 : rdOff s e g = true := by simp [rdOff, hg0]
              rw [e2, cond_true]
              simp +contextual only [go_sem, ↓reduceIte, Nat.reduceEqDiff, Nat.reduceAdd, Nat.reduceLeDiff, Nat.reduceLT, reduceCtorEq, k9, Int.lt_irrefl, decide_false, hmp, hgg, hme, e1, h18, and_self, List.length_map]
              exact ⟨by rfl, rfl⟩
            · have e1 : (((g.length : Nat) : Int) == 0) = false := by simp; intro h; exact hg0 (by simp [h])
              obtain ⟨r0, hr0⟩ : ∃ r, g[0]? = some r := ⟨g[0]'(by omega), by simp⟩
              obtain ⟨r1, hr1⟩ : ∃ r, g[g.length - 1]? = some r := ⟨g[g.length - 1]'(by omega), by simp⟩
              have e2 : rdOff s e g = (r0.time != s.time || r1.time != e.time) := by
                have f1 : (g.head?.map (·.time)).getD 0 = r0.time := by rw [List.head?_eq_getElem?, hr0]; rfl
                have f2 : lastT g = r1.time := by rw [lastT, List.getLast?_eq_getElem?, hr1]; rfl
                rw [rdOff, f1, f2]
                simp [hg0]
              have hgl : g.length ≤ 1024 := by
                have := mrgE_len (acc := []) (l := es) (by rw [hgg]; simpa using hme) (by decide)
                rw [hgg] at this
                exact this
              have w1 : IntKind.i64.wrap (((g.length : Nat) : Int) - 1) = ((g.length - 1 : Nat) : Int) := by rw [IntKind.wrap_i64]; omega
              rw [e2]
              cases t0 : (r0.time != s.time) <;> cases t1 : (r1.time != e.time)
              all_goals simp +contextual only [go_sem, ↓reduceIte, Nat.reduceEqDiff, Nat.reduceAdd, Nat.reduceLeDiff, Nat.reduceLT, reduceCtorEq, k9, Int.lt_irrefl, decide_false, hmp, hgg, hme, e1, hr0, hr1, w1, t0, t1, h18, h19, and_self, Bool.false_or, Bool.true_or, Bool.or_false, Bool.or_true, cond_true, cond_false, List.length_map, List.getElem?_map, Option.map_some, Int.natCast_nonneg, Int.toNat_natCast, Int.toNat_zero, Int.le_refl]
              · exact ⟨by rfl, fun f => rfl, fun f => ⟨fun f2 => rfl, fun f2 => rfl⟩⟩
              · exact ⟨by rfl, rfl⟩
              · exact ⟨by rfl, rfl⟩
              · exact ⟨by rfl, rfl⟩
        · rintro i o x xs hd hlt hx ⟨h1, h2⟩
          have hw := wrap_nat hlt (by omega)
          have hlen : i + 1 + xs.length = es.length := by have := congrArg List.length hd; simp at this; omega
          have hil : decide (((i : Nat) : Int) < ((es.length - 1 : Nat) : Int)) = decide (xs ≠ []) := by
            rw [decide_eq_decide]
            cases xs with
            | nil => simp at hlen ⊢; omega
            | cons y ys => simp at hlen ⊢; omega
          have hbx : badM s.conn (x :: xs) = ((x.kind == 3 && decide (xs ≠ [])) || x.conn != s.conn || badM s.conn xs) := rfl
          have hox : offS (x :: xs) = (x.offline || offS xs) := rfl
          have hbad : ((x.kind == 3 && decide (xs ≠ [])) || x.conn != s.conn) = true → badM s.conn es = true := fun g => by rw [← h1, hbx, g, Bool.true_or]
          have hgo : ((x.kind == 3 && decide (xs ≠ [])) || x.conn != s.conn) = false → badM s.conn xs = badM s.conn es := fun g => by rw [← h1, hbx, g, Bool.false_or]
          have hgo2 : ((o || x.offline) || offS xs) = offS es := by rw [← h2, hox, Bool.or_assoc]
          generalize hpx : decide (xs ≠ []) = px at *
          cases b3 : (x.kind == 3) <;> cases px <;> cases bc : (x.conn != s.conn) <;> cases o <;> rw [b3, bc] at hbad hgo
          all_goals simp +contextual only [go_sem, ↓reduceIte, Nat.reduceEqDiff, Nat.reduceAdd, Nat.reduceLeDiff, Nat.reduceLT, reduceCtorEq, k9, lt_dec hlt, hx, hw, hw1, hil, b3, bc, List.length_map, List.getElem?_map, Option.map_some, Int.natCast_nonneg, Int.toNat_natCast]
          all_goals first
            | exact ⟨false, ⟨hgo rfl, by simpa using hgo2⟩, .back rfl (by simp +contextual only [go_sem, ↓reduceIte, Nat.reduceEqDiff, Nat.reduceAdd, Nat.reduceLeDiff, Nat.reduceLT, reduceCtorEq])⟩
            | exact ⟨true, ⟨hgo rfl, by simpa using hgo2⟩, .back rfl (by simp +contextual only [go_sem, ↓reduceIte, Nat.reduceEqDiff, Nat.reduceAdd, Nat.reduceLeDiff, Nat.reduceLT, reduceCtorEq])⟩
            | exact ⟨x.offline, ⟨hgo rfl, by simpa using hgo2⟩, .back rfl (by simp +contextual only [go_sem, ↓reduceIte, Nat.reduceEqDiff, Nat.reduceAdd, Nat.reduceLeDiff, Nat.reduceLT, reduceCtorEq])⟩
            | (rw [hbad rfl, cond_true]; rfl)
end Go.Proofs.Ytoccifhckpjfaaa
