/- Records, the reference: Make, walked. -/
import Derived.Test.YtoccifhckpjfaaaRec37n
namespace Go.Proofs.Ytoccifhckpjfaaa
set_option linter.all false
open Go.Idl in
theorem lenNil {P : Program} {t e : TypeId} (h : P.underlying t = some (.slice e)) {τ : Nat → V} {k ty : Nat} (hx : τ k = .sc (.slice none 0 0)) :
    lenI P τ (pu (.call ⟨.builtin .len, #[.tmp k], #[t]⟩) ty) (.sc (.slice none 0 0)) = some (.sc (.int .i64 0), []) := by
  show evPure P (opd τ) _ = _
  refine evPure_of (v := .int .i64 0) ?_ (by simp [pu]) ?_
  · simp [pu, Op.operands, Call.operands, opd, hx, V.conc]
  · simp [pu, execOp, opd, hx, V.conc, runPure_bind, runPure_pure, runPure_underlying h, resolve, invoke, builtin, Builtin.len_, goInt]
open Go.Idl
set_option maxHeartbeats 16000000
set_option maxRecDepth 100000
attribute [local go_sem] agRec agEv37 Try.underlying3 Try.underlying5 Try.underlying9 Try.underlying4 Try.underlying30 Try.underlying22 Try.underlying25
theorem con30 {Φ : Specs} (hg : Idl.Good Try.prog Φ) (h10 : Φ 10 = some SEv) (h45 : Φ 45 = some SDist) (h46 : Φ 46 = some SCplW) (h47 : Φ 47 = some SMrg) (h48 : Φ 48 = some STot) : Contract Try.prog 30 SMkR := by
  refine conT hg k30 ic30 (by decide) fun C t r h => ?_
  obtain ⟨l, m, u⟩ := t
  dsimp only at h
  by_cases hp : gdE l = true
  case neg => rw [if_neg hp] at h; cases h
  rw [if_pos hp] at h
  cases h
  have gd := gdE_iff.1 hp
  have n1 := gd.n1
  have n2 := gd.n2
  have hz : (((l.length : Nat) : Int) == 0) = false := by simp; intro h; rw [h] at n1; simp at n1
  have hdist : l.length ≤ 100000 ∧ srtB l = true ∧ keysB l = true := ⟨n2, gd.srt, gd.key⟩
  have hcp : 1 ≤ l.length ∧ l.length ≤ 100000 := ⟨n1, n2⟩
  have hcw := cplW_eq gd
  have hok : okRd l = true := okRd_of gd.val
  obtain ⟨s, hs⟩ : ∃ s, l[0]? = some s := ⟨l[0]'(by omega), by simp⟩
  obtain ⟨e, he⟩ : ∃ e, l[l.length - 1]? = some e := ⟨l[l.length - 1]'(by omega), by simp⟩
  have hhd : hdE l = s := by rw [hdE, List.head?_eq_getElem?, hs]; rfl
  have hlt : ltE l = e := by rw [ltE, List.getLast?_eq_getElem?, he]; rfl
  have hmk : makeE l m = bif !complS l then (zeroR, 22) else bif badM s.conn l then (zeroR, 1) else bif (mrgE [] l).2 != 0 then (zeroR, (mrgE [] l).2) else
      bif rdOff s e (mrgE [] l).1 then (zeroR, 1) else bif (totS (mrgE [] l).1 m).2 != 0 then (zeroR, (totS (mrgE [] l).1 m).2) else
      bif decide ((totS (mrgE [] l).1 m).1 > 1099511627776) then (zeroR, 2) else (recOf s e (offS l) (mrgE [] l).1 (totS (mrgE [] l).1 m).1, 0) := by rw [makeE, hhd, hlt]
  rw [hhd, hlt] at hcw
  have e22 : ((22 : Int) != 0) = true := rfl
  have e01 : ((1 : Int) != 0) = true := rfl
  have e0l : decide ((0 : Int) < 1) = true := rfl
  rw [hmk]
  simp +contextual only [go_sem, ↓reduceIte, Nat.reduceEqDiff, Nat.reduceAdd, Nat.reduceLeDiff, Nat.reduceLT, reduceCtorEq, c30, k30, hz, List.length_map]
  refine TriI.loopL hg k30 l (fun i (_ : Unit) => ⟨slotsL [(0, Cod.enc l), (1, .sc (.int .i64 m)), (4, .ref 0 0 0), (5, .sc (.int .i64 0)), (21, Cod.enc l), (22, .sc (.int .i64 l.length)), (23, .sc (.int .i64 i))], objsL [.live 11 [zeroA] true], 1⟩)
    (fun _ _ => True) () (.back rfl ?_) trivial ?_ ?_
  · simp +contextual only [go_sem, ↓reduceIte, Nat.reduceEqDiff, Nat.reduceAdd, Nat.reduceLeDiff, Nat.reduceLT, reduceCtorEq, List.length_map]
    rfl
  · rintro _ _
    cases hcs : complS l
    · have hc2 : cplW l = (dfE, 22) := by rw [hcw, hcs]; rfl
      rw [Bool.not_false, cond_true]
      simp +contextual only [go_sem, ↓reduceIte, Nat.reduceEqDiff, Nat.reduceAdd, Nat.reduceLeDiff, Nat.reduceLT, reduceCtorEq, k30, Int.lt_irrefl, decide_false, h45, hdist, h46, hcp, hc2, dfE, e22, e01, and_self, List.length_map]
      rfl
    rw [Bool.not_true, cond_false]
    cases hbm : badM s.conn l
    case true =>
      have hc2 : cplW l = (dfE, 1) := by rw [hcw, hcs, hbm]; rfl
      rw [cond_true]
      simp +contextual only [go_sem, ↓reduceIte, Nat.reduceEqDiff, Nat.reduceAdd, Nat.reduceLeDiff, Nat.reduceLT, reduceCtorEq, k30, Int.lt_irrefl, decide_false, h45, hdist, h46, hcp, hc2, dfE, e22, e01, and_self, List.length_map]
      rfl
    have hc2 : cplW l = (e, 0) := by rw [hcw, hcs, hbm]; rfl
    rw [cond_false]
    simp +contextual only [go_sem, ↓reduceIte, Nat.reduceEqDiff, Nat.reduceAdd, Nat.reduceLeDiff, Nat.reduceLT, reduceCtorEq, k30, Int.lt_irrefl, decide_false, h45, hdist, h46, hcp, hc2, hs, and_self, List.length_map, List.getElem?_map, Option.map_some, Int.natCast_nonneg, Int.toNat_natCast, Int.toNat_zero, Int.le_refl]
    refine TriI.loopL hg k30 l (fun i (a : V × List Rdg × Bool) => ⟨slotsL [(1, .sc (.int .i64 m)), (4, .ref 0 0 0), (5, .sc (.int .i64 0)), (10, .sc (.int .i64 0)), (13, .ref 1 0 0), (73, Cod.enc l), (74, .sc (.int .i64 l.length)), (75, .sc (.int .i64 i))], objsL [.live 11 [zeroA] true, .live 11 [.agg [Cod.enc s.station, Cod.enc s.txn, Cod.enc s.conn, Cod.enc s.token, Cod.enc s.time, Cod.enc e.time, a.1, .sc (.int .i64 0), Cod.enc e.reason, Cod.enc a.2.2, Cod.enc (e.reason == 5)]] true], 2⟩)
      (fun xs a => ((a.1 = .sc (.slice none 0 0) ∧ a.2.1 = []) ∨ a.1 = Cod.enc a.2.1) ∧ a.2.1.length ≤ 1024 ∧ mrgE a.2.1 xs = mrgE [] l ∧ (a.2.2 || offS xs) = offS l ∧ okRd xs = true) (.sc (.slice none 0 0), [], false) (.ren [some 0, some 5] rfl rfl 1 ?_) ⟨.inl ⟨rfl, rfl⟩, by decide, rfl, rfl, hok⟩ ?_ ?_
    · simp +contextual only [go_sem, ↓reduceIte, Nat.reduceEqDiff, Nat.reduceAdd, Nat.reduceLeDiff, Nat.reduceLT, reduceCtorEq, List.length_map]
      rfl
    · rintro ⟨v, acc, o⟩ ⟨hv, h1, h2, h3, h4⟩
      have hme : mrgE [] l = (acc, 0) := by rw [← h2]; rfl
      have hof : offS l = o := by rw [← h3]; simp [offS]
      rw [hme, hof]
      dsimp only at hv h1 ⊢
      have e00 : ((0 : Int) != 0) = false := rfl
      rw [e00, cond_false]
      rcases hv with ⟨rfl, rfl⟩ | rfl
      · have hro : rdOff s e [] = true := rfl
        rw [hro, cond_true]
        simp +contextual only [go_sem, ↓reduceIte, Nat.reduceEqDiff, Nat.reduceAdd, Nat.reduceLeDiff, Nat.reduceLT, reduceCtorEq, k30, Int.lt_irrefl, decide_false, lenNil Try.underlying25, e0l]
        exact ⟨by rfl, rfl⟩
      · by_cases hg0 : acc.length = 0
        · have e1 : decide (((acc.length : Nat) : Int) < 1) = true := by simp; omega
          have e2 : rdOff s e acc = true := by simp [rdOff, hg0]
          rw [e2, cond_true]
          simp +contextual only [go_sem, ↓reduceIte, Nat.reduceEqDiff, Nat.reduceAdd, Nat.reduceLeDiff, Nat.reduceLT, reduceCtorEq, k30, Int.lt_irrefl, decide_false, e1, List.length_map]
          exact ⟨by rfl, rfl⟩
        · have e1 : decide (((acc.length : Nat) : Int) < 1) = false := by simp; omega
          obtain ⟨r0, hr0⟩ : ∃ r, acc[0]? = some r := ⟨acc[0]'(by omega), by simp⟩
          obtain ⟨r1, hr1⟩ : ∃ r, acc[acc.length - 1]? = some r := ⟨acc[acc.length - 1]'(by omega), by simp⟩
          have e2 : rdOff s e acc = (r0.time != s.time || r1.time != e.time) := by
            have f1 : (acc.head?.map (·.time)).getD 0 = r0.time := by rw [List.head?_eq_getElem?, hr0]; rfl
            have f2 : lastT acc = r1.time := by rw [lastT, List.getLast?_eq_getElem?, hr1]; rfl
            rw [rdOff, f1, f2]
            simp [hg0]
          have w1 : IntKind.i64.wrap (((acc.length : Nat) : Int) - 1) = ((acc.length - 1 : Nat) : Int) := by rw [IntKind.wrap_i64]; omega
          rw [e2]
          cases t0 : (r0.time != s.time) <;> cases t1 : (r1.time != e.time)
          all_goals simp +contextual only [go_sem, ↓reduceIte, Nat.reduceEqDiff, Nat.reduceAdd, Nat.reduceLeDiff, Nat.reduceLT, reduceCtorEq, k30, Int.lt_irrefl, decide_false, e1, hr0, hr1, w1, t0, t1, h48, Bool.false_or, Bool.true_or, Bool.or_false, Bool.or_true, cond_true, cond_false, List.length_map, List.getElem?_map, Option.map_some, Int.natCast_nonneg, Int.toNat_natCast, Int.toNat_zero, Int.le_refl]
          · exact ⟨by rfl, fun f => rfl, fun f => ⟨fun f2 => rfl, fun f2 => rfl⟩⟩
          · exact ⟨by rfl, rfl⟩
          · exact ⟨by rfl, rfl⟩
          · exact ⟨by rfl, rfl⟩
    · rintro i ⟨v, acc, o⟩ x xs hd hlt hx ⟨hv, h1, h2, h3, h4⟩
      have hw := wrap_nat hlt (by omega)
      rw [okRd, List.all_cons, Bool.and_eq_true, decide_eq_true_eq] at h4
      obtain ⟨h4, h5⟩ := h4
      have hb : acc.length ≤ 1000000 ∧ x.rds.length ≤ 1000000 := ⟨by dsimp only at h1; omega, h4⟩
      have hm : mrgE acc (x :: xs) = bif (mrgS acc x.rds).2 != 0 then ([], (mrgS acc x.rds).2) else mrgE (mrgS acc x.rds).1 xs := rfl
      have hox : offS (x :: xs) = (x.offline || offS xs) := rfl
      dsimp only at hv h2 h3 ⊢
      cases he0 : ((mrgS acc x.rds).2 != 0)
      case true =>
        have hfin : mrgE [] l = ([], (mrgS acc x.rds).2) := by rw [← h2, hm, he0, cond_true]
        rw [hfin]
        dsimp only
        rw [he0, cond_true]
        rcases hv with ⟨rfl, rfl⟩ | rfl
        · simp +contextual only [go_sem, ↓reduceIte, Nat.reduceEqDiff, Nat.reduceAdd, Nat.reduceLeDiff, Nat.reduceLT, reduceCtorEq, k30, lt_dec hlt, hx, hw, hb, he0, h47, and_self, List.length_map, List.getElem?_map, Option.map_some, Int.natCast_nonneg, Int.toNat_natCast]
          rfl
        · simp +contextual only [go_sem, ↓reduceIte, Nat.reduceEqDiff, Nat.reduceAdd, Nat.reduceLeDiff, Nat.reduceLT, reduceCtorEq, k30, lt_dec hlt, hx, hw, hb, he0, h47, and_self, List.length_map, List.getElem?_map, Option.map_some, Int.natCast_nonneg, Int.toNat_natCast]
          rfl
      have hz0 : (mrgS acc x.rds).2 = 0 := by simpa using he0
      have hnext : (mrgS acc x.rds).1.length ≤ 1024 ∧ mrgE (mrgS acc x.rds).1 xs = mrgE [] l := ⟨mrgS_len hz0, by rw [← h2, hm, he0, cond_false]⟩
      have ho2 : ((o || x.offline) || offS xs) = offS l := by rw [← h3, hox, Bool.or_assoc]
      rcases hv with ⟨rfl, rfl⟩ | rfl <;> cases o
      all_goals simp +contextual only [go_sem, ↓reduceIte, Nat.reduceEqDiff, Nat.reduceAdd, Nat.reduceLeDiff, Nat.reduceLT, reduceCtorEq, k30, lt_dec hlt, hx, hw, hb, he0, hz0, h47, and_self, List.length_map, List.getElem?_map, Option.map_some, Int.natCast_nonneg, Int.toNat_natCast]
      · exact ⟨(Cod.enc (mrgS [] x.rds).1, (mrgS [] x.rds).1, x.offline), ⟨.inr rfl, hnext.1, hnext.2, by simpa using ho2, h5⟩, .ren [some 0, some 1] rfl rfl 1 (by simp +contextual only [go_sem, ↓reduceIte, Nat.reduceEqDiff, Nat.reduceAdd, Nat.reduceLeDiff, Nat.reduceLT, reduceCtorEq])⟩
      · exact ⟨(Cod.enc (mrgS [] x.rds).1, (mrgS [] x.rds).1, true), ⟨.inr rfl, hnext.1, hnext.2, by simpa using ho2, h5⟩, .ren [some 0, some 1] rfl rfl 1 (by simp +contextual only [go_sem, ↓reduceIte, Nat.reduceEqDiff, Nat.reduceAdd, Nat.reduceLeDiff, Nat.reduceLT, reduceCtorEq])⟩
      · exact ⟨(Cod.enc (mrgS acc x.rds).1, (mrgS acc x.rds).1, x.offline), ⟨.inr rfl, hnext.1, hnext.2, by simpa using ho2, h5⟩, .ren [some 0, some 1] rfl rfl 1 (by simp +contextual only [go_sem, ↓reduceIte, Nat.reduceEqDiff, Nat.reduceAdd, Nat.reduceLeDiff, Nat.reduceLT, reduceCtorEq])⟩
      · exact ⟨(Cod.enc (mrgS acc x.rds).1, (mrgS acc x.rds).1, true), ⟨.inr rfl, hnext.1, hnext.2, by simpa using ho2, h5⟩, .ren [some 0, some 1] rfl rfl 1 (by simp +contextual only [go_sem, ↓reduceIte, Nat.reduceEqDiff, Nat.reduceAdd, Nat.reduceLeDiff, Nat.reduceLT, reduceCtorEq])⟩
  · rintro i _ x xs hd hlt hx _
    have hw := wrap_nat hlt (by omega)
    have hex : (evS x != 0) = false := by rw [gd.val x (List.mem_of_getElem? hx)]; rfl
    simp +contextual only [go_sem, ↓reduceIte, Nat.reduceEqDiff, Nat.reduceAdd, Nat.reduceLeDiff, Nat.reduceLT, reduceCtorEq, k30, lt_dec hlt, hx, hw, hex, h10, List.length_map, List.getElem?_map, Option.map_some, Int.natCast_nonneg, Int.toNat_natCast]
    exact ⟨(), trivial, .back rfl (by simp +contextual only [go_sem, ↓reduceIte, Nat.reduceEqDiff, Nat.reduceAdd, Nat.reduceLeDiff, Nat.reduceLT, reduceCtorEq])⟩
end Go.Proofs.Ytoccifhckpjfaaa
