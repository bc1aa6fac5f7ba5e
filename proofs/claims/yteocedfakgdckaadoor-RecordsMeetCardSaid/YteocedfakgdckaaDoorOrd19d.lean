/- Records: Make. -/
import Derived.Test.YteocedfakgdckaaDoorOrd19a
namespace Go.Proofs.YteocedfakgdckaaDoor
set_option linter.all false
open Go.Idl
set_option maxHeartbeats 8000000
set_option maxRecDepth 100000
attribute [local go_sem] Tryd.underlying3 Tryd.underlying5 Tryd.underlying9 Tryd.underlying4 Tryd.underlying30 Tryd.underlying35 Tryd.underlying27
theorem agRec : agOf Tryd.prog 39 = some (some 11) := by kernel_rfl
attribute [local go_sem] agRec
theorem okRd_of {l : List EvD} (h : ∀ x, x ∈ l → evS x = 0) : okRd l = true := by
  rw [okRd, List.all_eq_true]
  intro x hx
  rw [decide_eq_true_eq]
  have := (evS_ok (h x hx)).2.2
  omega
theorem mrgE_len : ∀ {l : List EvD} {acc : List Rdg}, (mrgE acc l).2 = 0 → acc.length ≤ 1024 → (mrgE acc l).1.length ≤ 1024
  | [], acc, _, h => h
  | x :: l, acc, h, _ => by
    rw [mrgE] at h ⊢
    cases hs : ((mrgS acc x.rds).2 != 0) with
    | true => rw [hs, cond_true] at h; have h' : (mrgS acc x.rds).2 = 0 := h; rw [h'] at hs; cases hs
    | false =>
      rw [hs, cond_false] at h
      rw [cond_false]
      exact mrgE_len h (mrgS_len (by simpa using hs))
abbrev zeroA : V := .agg [.sc (.string ⟨#[]⟩), .sc (.string ⟨#[]⟩), .sc (.int .i64 0), .sc (.string ⟨#[]⟩), .sc (.int .i64 0), .sc (.int .i64 0), .sc (.slice none 0 0), .sc (.int .i64 0), .sc (.int .i64 0), .sc (.bool false), .sc (.bool false)]
open Classical in
noncomputable abbrev SMake : List V → Option V := FT fun (t : List EvD × Int × Unit) => if OrdE t.1 then some (makeS t.1 t.2.1) else none
theorem con7 {Φ : Specs} (hg : Idl.Good Tryd.prog Φ) (h16 : Φ 16 = some SOrd) (h17 : Φ 17 = some SCompl) (h18 : Φ 18 = some SMrgE) (h19 : Φ 19 = some STot) : Contract Tryd.prog 7 SMake := by
  refine conT hg k7 ic7 (by decide) fun C t r h => ?_
  obtain ⟨es, m, u⟩ := t
  dsimp only at h
  split at h
  case isFalse => cases h
  rename_i hpre
  cases h
  have hl := hpre.len1
  have g3 := hpre.len
  have hz : (((es.length : Nat) : Int) == 0) = false := by
    have : ((es.length : Nat) : Int) ≠ 0 := by omega
    simpa using this
  have ho : ((0 : Int) != 0) = false := rfl
  have hok : okRd es = true := okRd_of hpre.ev
  have hc1 : es.length ≤ 1000000 := by omega
  have hmp : es.length ≤ 1000000 ∧ okRd es = true := ⟨hc1, hok⟩
  obtain ⟨s, hs⟩ : ∃ s, es[0]? = some s := ⟨es[0]'(by omega), by simp⟩
  obtain ⟨e, he⟩ : ∃ e, es[es.length - 1]? = some e := ⟨es[es.length - 1]'(by omega), by simp⟩
  have hhd : hdE es = s := by rw [hdE, List.head?_eq_getElem?, hs]; rfl
  have hlt : ltE es = e := by rw [ltE, List.getLast?_eq_getElem?, he]; rfl
  have hw1 : IntKind.i64.wrap (((es.length : Nat) : Int) - 1) = ((es.length - 1 : Nat) : Int) := by rw [IntKind.wrap_i64]; omega
  have hlz : ((es.length - 1 : Nat) : Int) < ((es.length : Nat) : Int) := by omega
  have hmk : makeE es m = bif !complS es then (zeroR, 22) else bif badM s.conn es then (zeroR, 1) else bif (mrgE [] es).2 != 0 then (zeroR, (mrgE [] es).2) else
      bif rdOff s e (mrgE [] es).1 then (zeroR, 1) else bif (totS (mrgE [] es).1 m).2 != 0 then (zeroR, (totS (mrgE [] es).1 m).2) else
      bif decide ((totS (mrgE [] es).1 m).1 > 1099511627776) then (zeroR, 2) else (recOf s e (offS es) (mrgE [] es).1 (totS (mrgE [] es).1 m).1, 0) := by rw [makeE, hhd, hlt]
  rw [show makeS es m = makeE es m from rfl, hmk]
  cases hcs : complS es with
  | false =>
    rw [Bool.not_false, cond_true]
    simp +contextual only [go_sem, ↓reduceIte, Nat.reduceEqDiff, Nat.reduceAdd, Nat.reduceLeDiff, Nat.reduceLT, reduceCtorEq, c7, k7, hz, hpre, ho, hc1, hcs, h16, h17, Bool.not_false, and_self, List.length_map]
    rfl
  | true =>
    rw [Bool.not_true, cond_false]
    simp +contextual only [go_sem, ↓reduceIte, Nat.reduceEqDiff, Nat.reduceAdd, Nat.reduceLeDiff, Nat.reduceLT, reduceCtorEq, c7, k7, hz, hpre, ho, hc1, hcs, hs, he, hw1, h16, h17, Bool.not_true, and_self, List.length_map, List.getElem?_map, Option.map_some, Int.natCast_nonneg, Int.toNat_natCast, Int.toNat_zero, Int.le_refl]
    refine ⟨by rfl, ?_⟩
    refine TriI.loopL hg k7 es (fun i (o : Bool) => ⟨slotsL [(1, .sc (.int .i64 m)), (4, .ref 0 0 0), (5, .sc (.int .i64 0)), (6, Cod.enc es), (8, .ref 1 0 0), (9, .ref 2 0 0), (10, .sc (.bool o)), (41, Cod.enc es), (42, .sc (.int .i64 es.length)), (43, .sc (.int .i64 i))], objsL [.live 11 [zeroA] true, .live 10 [Cod.enc s] true, .live 10 [Cod.enc e] true], 3⟩)
      (fun xs o => badM s.conn xs = badM s.conn es ∧ (o || offS xs) = offS es) false (.ren [some 0, some 10, some 11] rfl rfl 1 ?_) ⟨rfl, rfl⟩ ?_ ?_
    · simp +contextual only [go_sem, ↓reduceIte, Nat.reduceEqDiff, Nat.reduceAdd, Nat.reduceLeDiff, Nat.reduceLT, reduceCtorEq, List.length_map]
      rfl
    · rintro o ⟨h1, h2⟩
      have hbm : badM s.conn es = false := by rw [← h1]; rfl
      have hof : offS es = o := by rw [← h2]; simp [offS]
      rw [hbm, hof, cond_false]
      cases hme : ((mrgE [] es).2 != 0) with
      | true =>
        rw [cond_true]
        simp +contextual only [go_sem, ↓reduceIte, Nat.reduceEqDiff, Nat.reduceAdd, Nat.reduceLeDiff, Nat.reduceLT, reduceCtorEq, k7, Int.lt_irrefl, decide_false, hmp, hme, h18, and_self, List.length_map]
        rfl
      | false =>
        rw [cond_false]
        generalize hgg : mrgE [] es = gg at *
        obtain ⟨g, ge⟩ := gg
        dsimp only at hme ⊢
        by_cases hg0 : g.length = 0
        · have e1 : (((g.length : Nat) : Int) == 0) = true := by rw [hg0]; rfl
          have e2 : rdOff s e g = true := by simp [rdOff, hg0]
          rw [e2, cond_true]
          simp +contextual only [go_sem, ↓reduceIte, Nat.reduceEqDiff, Nat.reduceAdd, Nat.reduceLeDiff, Nat.reduceLT, reduceCtorEq, k7, Int.lt_irrefl, decide_false, hmp, hgg, hme, e1, h18, and_self, List.length_map]
          exact ⟨by rfl, rfl⟩
        · have e1 : (((g.length : Nat) : Int) == 0) = false := by simp; intro h; exact hg0 (by simp [h])
          obtain ⟨r0, hr0⟩ : ∃ r, g[0]? = some r := ⟨g[0]'(by omega), by simp⟩
          obtain ⟨r1, hr1⟩ : ∃ r, g[g.length - 1]? = some r := ⟨g[g.length - 1]'(by omega), by simp⟩
          have e2 : rdOff s e g = (r0.time != s.time || r1.time != e.time) := by
            have f1 : (g.head?.map (·.time)).getD 0 = r0.time := by rw [List.head?_eq_getElem?, hr0]; rfl
            have f2 : lastT g = r1.time := by rw [lastT, List.getLast?_eq_getElem?, hr1]; rfl
            rw [rdOff, f1, f2]
            simp [hg0]
          have hgl : g.length ≤ 1024 := by
            have := mrgE_len (acc := []) (l := es) (by rw [hgg]; simpa using hme) (by decide)
            rw [hgg] at this
            exact this
          have w1 : IntKind.i64.wrap (((g.length : Nat) : Int) - 1) = ((g.length - 1 : Nat) : Int) := by rw [IntKind.wrap_i64]; omega
          rw [e2]
          cases t0 : (r0.time != s.time) <;> cases t1 : (r1.time != e.time)
          all_goals simp +contextual only [go_sem, ↓reduceIte, Nat.reduceEqDiff, Nat.reduceAdd, Nat.reduceLeDiff, Nat.reduceLT, reduceCtorEq, k7, Int.lt_irrefl, decide_false, hmp, hgg, hme, e1, hr0, hr1, w1, t0, t1, h18, h19, and_self, Bool.false_or, Bool.true_or, Bool.or_false, Bool.or_true, cond_true, cond_false, List.length_map, List.getElem?_map, Option.map_some, Int.natCast_nonneg, Int.toNat_natCast, Int.toNat_zero, Int.le_refl]
          · exact ⟨by rfl, fun f => rfl, fun f => ⟨fun f2 => rfl, fun f2 => rfl⟩⟩
          · exact ⟨by rfl, rfl⟩
          · exact ⟨by rfl, rfl⟩
          · exact ⟨by rfl, rfl⟩
    · rintro i o x xs hd hlt hx ⟨h1, h2⟩
      have hw := wrap_nat hlt (by omega)
      have hlen : i + 1 + xs.length = es.length := by have := congrArg List.length hd; simp at this; omega
      have hil : decide (((i : Nat) : Int) < ((es.length - 1 : Nat) : Int)) = decide (xs ≠ []) := by
        rw [decide_eq_decide]
        cases xs with
        | nil => simp at hlen ⊢; omega
        | cons y ys => simp at hlen ⊢; omega
      have hbx : badM s.conn (x :: xs) = ((x.kind == 3 && decide (xs ≠ [])) || x.conn != s.conn || badM s.conn xs) := rfl
      have hox : offS (x :: xs) = (x.offline || offS xs) := rfl
      have hbad : ((x.kind == 3 && decide (xs ≠ [])) || x.conn != s.conn) = true → badM s.conn es = true := fun g => by rw [← h1, hbx, g, Bool.true_or]
      have hgo : ((x.kind == 3 && decide (xs ≠ [])) || x.conn != s.conn) = false → badM s.conn xs = badM s.conn es := fun g => by rw [← h1, hbx, g, Bool.false_or]
      have hgo2 : ((o || x.offline) || offS xs) = offS es := by rw [← h2, hox, Bool.or_assoc]
      generalize hpx : decide (xs ≠ []) = px at *
      cases b3 : (x.kind == 3) <;> cases px <;> cases bc : (x.conn != s.conn) <;> cases o <;> rw [b3, bc] at hbad hgo
      all_goals simp +contextual only [go_sem, ↓reduceIte, Nat.reduceEqDiff, Nat.reduceAdd, Nat.reduceLeDiff, Nat.reduceLT, reduceCtorEq, k7, lt_dec hlt, hx, hw, hw1, hil, b3, bc, List.length_map, List.getElem?_map, Option.map_some, Int.natCast_nonneg, Int.toNat_natCast]
      all_goals first
        | exact ⟨false, ⟨hgo rfl, by simpa using hgo2⟩, .back rfl (by simp +contextual only [go_sem, ↓reduceIte, Nat.reduceEqDiff, Nat.reduceAdd, Nat.reduceLeDiff, Nat.reduceLT, reduceCtorEq])⟩
        | exact ⟨true, ⟨hgo rfl, by simpa using hgo2⟩, .back rfl (by simp +contextual only [go_sem, ↓reduceIte, Nat.reduceEqDiff, Nat.reduceAdd, Nat.reduceLeDiff, Nat.reduceLT, reduceCtorEq])⟩
        | exact ⟨x.offline, ⟨hgo rfl, by simpa using hgo2⟩, .back rfl (by simp +contextual only [go_sem, ↓reduceIte, Nat.reduceEqDiff, Nat.reduceAdd, Nat.reduceLeDiff, Nat.reduceLT, reduceCtorEq])⟩
        | (rw [hbad rfl, cond_true]; rfl)
end Go.Proofs.YteocedfakgdckaaDoor
namespace Go.Proofs.YteocedfakgdckaaDoor
set_option linter.all false
open Go.Idl
set_option maxHeartbeats 4000000
set_option maxRecDepth 100000
theorem srt_eq {D D' : List EvD} (h1 : D.Pairwise (fun a b => a.seq < b.seq)) (h2 : D'.Pairwise (fun a b => a.seq < b.seq)) (h : ∀ x, x ∈ D ↔ x ∈ D') : D = D' := by
  have n1 : D.Nodup := h1.imp (fun hab hEq => by rw [hEq] at hab; omega)
  have n2 : D'.Nodup := h2.imp (fun hab hEq => by rw [hEq] at hab; omega)
  exact ((List.perm_ext_iff_of_nodup n1 n2).2 h).eq_of_pairwise (fun a b _ _ g1 g2 => by omega) h1 h2
theorem keyEq_iff {a b : EvD} : keyEq a b = true ↔ a.station = b.station ∧ a.txn = b.txn := by simp [keyEq]
theorem sameRec_self (r : RecD) : sameRec r r = true := by
  have : eqR r.rds r.rds = true := eqR_iff.2 rfl
  simp [sameRec, this]
theorem makeE_rds (es : List EvD) (m : Int) : (makeE es m).1.rds.length ≤ 1024 := by
  unfold makeE
  have hz : zeroR.rds.length ≤ 1024 := by decide
  cases !complS es <;> cases badM (hdE es).conn es <;> try exact hz
  cases hm : ((mrgE [] es).2 != 0) <;> try exact hz
  cases rdOff (hdE es) (ltE es) (mrgE [] es).1 <;> cases (totS (mrgE [] es).1 m).2 != 0 <;> cases decide ((totS (mrgE [] es).1 m).1 > 1099511627776) <;> try exact hz
  exact mrgE_len (by simpa using hm) (by decide)
theorem makeS_rds (l : List EvD) (m : Int) : (makeS l m).1.rds.length ≤ 1024 := makeE_rds l m
end Go.Proofs.YteocedfakgdckaaDoor
