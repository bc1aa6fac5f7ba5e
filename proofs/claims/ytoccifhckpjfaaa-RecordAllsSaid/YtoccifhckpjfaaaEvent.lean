/- Events: their errors, and which are the same. -/
import Derived.Test.YtoccifhckpjfaaaIdent
namespace Go.Proofs.Ytoccifhckpjfaaa
set_option linter.all false
open Go.Idl
set_option maxHeartbeats 4000000
set_option maxRecDepth 100000
attribute [local go_sem] Try.underlying3 Try.underlying5 Try.underlying9
def inR (lo hi x : Int) : Bool := decide (lo ≤ x) && decide (x ≤ hi)
def timeOk (x : Int) : Bool := inR 0 268435456 x
def rdgOk (r : Rdg) : Bool := timeOk r.time && inR 0 1099511627775 r.reg
def noMore (p : Option Rdg) (r : Rdg) : Bool := match p with
  | some q => decide (r.time ≤ q.time)
  | none => false
def rdsL (p : Option Rdg) : List Rdg → Int
  | [] => 0
  | r :: l => bif !rdgOk r then 2 else bif noMore p r then 1 else rdsL (some r) l
def lastT (l : List Rdg) : Int := ((l.getLast?).map (·.time)).getD 0
def rdsS (e : EvD) : Int := bif decide (e.rds.length > 16) then 3 else bif decide (e.rds.length = 0) then 1 else bif rdsL none e.rds != 0 then rdsL none e.rds else bif lastT e.rds != e.time then 1 else 0
def kindS (e : EvD) : Int :=
  bif e.kind == 1 then (bif e.seq != 0 || e.reason != 0 then 1 else bif !okName e.token then 4 else 0)
  else bif e.kind == 3 then (bif decide (e.reason < 1) || decide (e.reason > 6) then 1 else bif e.kind == 2 && e.reason != 0 || e.seq == 0 || !decide (e.token = ⟨#[]⟩) then 1 else 0)
  else bif e.kind == 2 then (bif e.reason != 0 || e.seq == 0 || !decide (e.token = ⟨#[]⟩) then 1 else 0)
  else 1
def numsS (e : EvD) : Bool := inR 1 32 e.conn && inR 0 2147483647 e.seq && timeOk e.time
def evS (e : EvD) : Int :=
  bif !okName e.station || !okName e.txn then 4 else bif !numsS e then 2 else bif kindS e != 0 then kindS e else rdsS e
theorem con50 {Φ : Specs} (hg : Idl.Good Try.prog Φ) (h49 : Φ 49 = some F49) : Contract Try.prog 50 (FT fun (t : EvD × Unit) => some (kindS t.1)) := by
  refine conT hg k50 ic50 (by decide) fun C t r h => ?_
  obtain ⟨e, u⟩ := t
  cases h
  simp +contextual only [go_sem, ↓reduceIte, Nat.reduceEqDiff, Nat.reduceAdd, Nat.reduceLeDiff, Nat.reduceLT, reduceCtorEq, c50, k50, h49, F49]
  (repeat' (first | apply And.intro | intro _)) <;> simp only [kindS, *, cond_true, cond_false]
theorem drop_pre {α : Type} {l a xs : List α} {x : α} {i : Nat} (hd : l.drop i = x :: xs) (h : l = a ++ (x :: xs)) : i = a.length := by
  have h1 := congrArg List.length hd
  have h2 := congrArg List.length h
  simp at h1 h2
  omega
theorem rd_bad (r : Rdg) : (decide (r.time < 0) || decide (r.time > 268435456) || decide (r.reg < 0) || decide (r.reg > 1099511627775)) = !rdgOk r := by
  rw [Bool.eq_iff_iff]; simp [rdgOk, timeOk, inR]; omega
theorem rdsL_app (a : List Rdg) (l : List Rdg) (x : Rdg) (xs : List Rdg) (h : rdsL a.getLast? (x :: xs) = rdsL none l) : (rdgOk x = false → rdsL none l = 2) ∧ (rdgOk x = true → noMore a.getLast? x = true → rdsL none l = 1) ∧ (rdgOk x = true → noMore a.getLast? x = false → rdsL (a ++ [x]).getLast? xs = rdsL none l) := by
  rw [← h, rdsL]
  refine ⟨fun h => by simp [h], fun h1 h2 => by simp [h1, h2], fun h1 h2 => by simp [h1, h2]⟩
theorem con51 {Φ : Specs} (hg : Idl.Good Try.prog Φ) : Contract Try.prog 51 (FT fun (t : EvD × Unit) => some (rdsS t.1)) := by
  refine conT hg k51 ic51 (by decide) fun C t r h => ?_
  obtain ⟨e, u⟩ := t
  cases h
  simp +contextual only [go_sem, ↓reduceIte, Nat.reduceEqDiff, Nat.reduceAdd, Nat.reduceLeDiff, Nat.reduceLT, reduceCtorEq, c51, k51, List.length_map]
  refine ⟨fun h => ?_, fun h => ⟨fun h2 => ?_, fun h2 => ?_⟩⟩
  · have : decide (e.rds.length > 16) = true := by simp at h ⊢; omega
    simp [rdsS, this]
  · have h1 : decide (e.rds.length > 16) = false := by simp at h ⊢; omega
    have : decide (e.rds.length = 0) = true := by simp at h2 ⊢; simp [h2]
    simp only [rdsS, h1, this, cond_true, cond_false]
  · have h1 : decide (e.rds.length > 16) = false := by simp at h ⊢; omega
    have h16 : e.rds.length ≤ 16 := by simp at h1; exact h1
    have h0 : e.rds ≠ [] := by intro h; simp [h] at h2
    have h3 : decide (e.rds.length = 0) = false := by simp [h0]
    refine TriI.loopL hg k51 e.rds (fun i (_ : List Rdg) => ⟨slotsL [(1, .ref 0 0 0), (14, Cod.enc e.rds), (15, .sc (.int .i64 e.rds.length)), (16, .sc (.int .i64 i))], objsL [.live 10 [Cod.enc e] true], 1⟩)
      (fun xs a => e.rds = a ++ xs ∧ rdsL a.getLast? xs = rdsL none e.rds) [] (.back rfl ?_) ⟨rfl, rfl⟩ ?_ ?_
    · simp +contextual only [go_sem, ↓reduceIte, Nat.reduceEqDiff, Nat.reduceAdd, Nat.reduceLeDiff, Nat.reduceLT, reduceCtorEq, List.length_map]
      rfl
    · intro a hinv
      have hz : rdsL none e.rds = 0 := hinv.2.symm
      have hw : IntKind.i64.wrap ((e.rds.length : Int) - 1) = ((e.rds.length - 1 : Nat) : Int) := by
        have : 0 < e.rds.length := List.length_pos_iff.2 h0
        rw [IntKind.wrap_i64]; omega
      have hlast : e.rds[e.rds.length - 1]? = some (e.rds.getLast h0) := by rw [← List.getLast?_eq_getElem?, List.getLast?_eq_some_getLast h0]
      have hT : lastT e.rds = (e.rds.getLast h0).time := by simp [lastT, List.getLast?_eq_some_getLast h0]
      simp +contextual only [go_sem, ↓reduceIte, Nat.reduceEqDiff, Nat.reduceAdd, Nat.reduceLeDiff, Nat.reduceLT, reduceCtorEq, k51, Int.lt_irrefl, decide_false, hw, hlast, List.length_map, List.getElem?_map, Option.map_some, Int.natCast_nonneg, Int.toNat_natCast]
      rw [← hT]
      refine ⟨rfl, fun hb => ?_, fun hb => ?_⟩ <;> simp only [rdsS, h1, h3, hz, hb, cond_true, cond_false, bne_self_eq_false]
    · intro i a x xs hd hlt hx hinv
      have hw := wrap_nat hlt (by omega)
      have hi := drop_pre hd hinv.1
      obtain ⟨r1, r2, r3⟩ := rdsL_app a e.rds x xs hinv.2
      rcases List.eq_nil_or_concat a with rfl | ⟨a', y, rfl⟩
      · have i0 : i = 0 := by simpa using hi
        have hg0 : decide ((i : Int) > 0) = false := by simp [i0]
        simp +contextual only [go_sem, ↓reduceIte, Nat.reduceEqDiff, Nat.reduceAdd, Nat.reduceLeDiff, Nat.reduceLT, reduceCtorEq, k51, lt_dec hlt, hx, hg0, List.getElem?_map, Option.map_some, Int.natCast_nonneg, Int.toNat_natCast, rd_bad]
        refine ⟨fun hb => ?_, fun hb => ⟨rfl, [x], ?_, .back rfl ?_⟩⟩
        · simp only [Bool.not_eq_true'] at hb
          simp [rdsS, h1, h0, r1 hb]
        · simp only [Bool.not_eq_false'] at hb
          exact ⟨hinv.1, r3 hb rfl⟩
        · simp +contextual only [go_sem, ↓reduceIte, Nat.reduceEqDiff, Nat.reduceAdd, Nat.reduceLeDiff, Nat.reduceLT, reduceCtorEq, hw]
      · have hg1 : decide ((i : Int) > 0) = true := by simp at hi ⊢; omega
        have hw1 : IntKind.i64.wrap ((i : Int) - 1) = ((i - 1 : Nat) : Int) := by
          have : 0 < i := by simpa using hg1
          rw [IntKind.wrap_i64]; omega
        have hy : e.rds[i - 1]? = some y := by
          rw [hinv.1, hi]; simp
        simp +contextual only [go_sem, ↓reduceIte, Nat.reduceEqDiff, Nat.reduceAdd, Nat.reduceLeDiff, Nat.reduceLT, reduceCtorEq, k51, lt_dec hlt, hx, hg1, hw1, hy, List.getElem?_map, Option.map_some, Int.natCast_nonneg, Int.toNat_natCast, rd_bad]
        have hn : noMore (a'.concat y).getLast? x = decide (x.time ≤ y.time) := by simp [noMore]
        rw [hn] at r2 r3
        refine ⟨fun hb => ?_, fun hb => ⟨rfl, fun hc => ?_, fun hc => ⟨a'.concat y ++ [x], ?_, .back rfl ?_⟩⟩⟩
        · simp only [Bool.not_eq_true'] at hb
          simp [rdsS, h1, h0, r1 hb]
        · simp only [Bool.not_eq_false'] at hb
          simp [rdsS, h1, h0, r2 hb hc]
        · simp only [Bool.not_eq_false'] at hb
          exact ⟨by rw [hinv.1]; simp, r3 hb hc⟩
        · simp +contextual only [go_sem, ↓reduceIte, Nat.reduceEqDiff, Nat.reduceAdd, Nat.reduceLeDiff, Nat.reduceLT, reduceCtorEq, hw]
abbrev SEv : List V → Option V := FT fun (t : EvD × Unit) => some (evS t.1)
theorem con33 {Φ : Specs} (hg : Idl.Good Try.prog Φ) (h49 : Φ 49 = some F49) (h50 : Φ 50 = some (FT fun (t : EvD × Unit) => some (kindS t.1))) (h51 : Φ 51 = some (FT fun (t : EvD × Unit) => some (rdsS t.1))) :
    Contract Try.prog 33 SEv := by
  refine conT hg k33 ic33 (by decide) fun C t r h => ?_
  obtain ⟨e, u⟩ := t
  cases h
  simp +contextual only [go_sem, ↓reduceIte, Nat.reduceEqDiff, Nat.reduceAdd, Nat.reduceLeDiff, Nat.reduceLT, reduceCtorEq, c33, k33, h49, F49, h50, h51]
  have hn : (decide (e.conn < 1) || decide (e.conn > 32) || decide (e.seq < 0) || decide (e.seq > 2147483647) || decide (e.time < 0) || decide (e.time > 268435456)) = !numsS e := by
    rw [Bool.eq_iff_iff]; simp [numsS, timeOk, inR]; omega
  simp only [hn]
  (repeat' (first | apply And.intro | intro _)) <;> simp only [evS, *, cond_true, cond_false]
theorem con21 {Φ : Specs} (hg : Idl.Good Try.prog Φ) : Contract Try.prog 21 (FT fun (t : Int × Int × Int × Unit) => some (inR t.2.1 t.2.2.1 t.1)) := by
  refine conT hg k21 ic21 (by decide) fun C t r h => ?_
  obtain ⟨x, lo, hi, u⟩ := t
  cases h
  simp +contextual only [go_sem, ↓reduceIte, Nat.reduceEqDiff, Nat.reduceAdd, Nat.reduceLeDiff, Nat.reduceLT, reduceCtorEq, c21, k21]
  rfl
theorem con56 {Φ : Specs} (hg : Idl.Good Try.prog Φ) : Contract Try.prog 56 (FT fun (t : Int × Int × Int × Unit) => some (inR t.2.1 t.2.2.1 t.1)) := by
  refine conT hg k56 ic56 (by decide) fun C t r h => ?_
  obtain ⟨x, lo, hi, u⟩ := t
  cases h
  simp +contextual only [go_sem, ↓reduceIte, Nat.reduceEqDiff, Nat.reduceAdd, Nat.reduceLeDiff, Nat.reduceLT, reduceCtorEq, c56, k56]
  rfl
theorem con22 {Φ : Specs} (hg : Idl.Good Try.prog Φ) : Contract Try.prog 22 (FT fun (t : Int × Unit) => some (timeOk t.1)) := by
  refine conT hg k22 ic22 (by decide) fun C t r h => ?_
  obtain ⟨x, u⟩ := t
  cases h
  simp +contextual only [go_sem, ↓reduceIte, Nat.reduceEqDiff, Nat.reduceAdd, Nat.reduceLeDiff, Nat.reduceLT, reduceCtorEq, c22, k22]
  rfl
theorem con43 {Φ : Specs} (hg : Idl.Good Try.prog Φ) (h22 : Φ 22 = some (FT fun (t : Int × Unit) => some (timeOk t.1))) (h56 : Φ 56 = some (FT fun (t : Int × Int × Int × Unit) => some (inR t.2.1 t.2.2.1 t.1))) :
    Contract Try.prog 43 (FT fun (t : Rdg × Unit) => some (rdgOk t.1)) := by
  refine conT hg k43 ic43 (by decide) fun C t r h => ?_
  obtain ⟨x, u⟩ := t
  cases h
  simp +contextual only [go_sem, ↓reduceIte, Nat.reduceEqDiff, Nat.reduceAdd, Nat.reduceLeDiff, Nat.reduceLT, reduceCtorEq, c43, k43, h22, h56]
  rfl
theorem con23 {Φ : Specs} (hg : Idl.Good Try.prog Φ) (h43 : Φ 43 = some (FT fun (t : Rdg × Unit) => some (rdgOk t.1))) : Contract Try.prog 23 (FT fun (t : EvD × Unit) => some (rdsS t.1)) := by
  refine conT hg k23 ic23 (by decide) fun C t r h => ?_
  obtain ⟨e, u⟩ := t
  cases h
  simp +contextual only [go_sem, ↓reduceIte, Nat.reduceEqDiff, Nat.reduceAdd, Nat.reduceLeDiff, Nat.reduceLT, reduceCtorEq, c23, k23, List.length_map]
  refine ⟨fun h => ?_, fun h => ⟨fun h2 => ?_, fun h2 => ?_⟩⟩
  · have : decide (e.rds.length > 16) = true := by simp at h ⊢; omega
    simp [rdsS, this]
  · have h1 : decide (e.rds.length > 16) = false := by simp at h ⊢; omega
    have : decide (e.rds.length = 0) = true := by simp at h2 ⊢; simp [h2]
    simp only [rdsS, h1, this, cond_true, cond_false]
  · have h1 : decide (e.rds.length > 16) = false := by simp at h ⊢; omega
    have h16 : e.rds.length ≤ 16 := by simp at h1; exact h1
    have h0 : e.rds ≠ [] := by intro h; simp [h] at h2
    have h3 : decide (e.rds.length = 0) = false := by simp [h0]
    refine TriI.loopL hg k23 e.rds (fun i (_ : List Rdg) => ⟨slotsL [(1, .ref 0 0 0), (3, .sc (.int .i64 i))], objsL [.live 10 [Cod.enc e] true], 1⟩)
      (fun xs a => e.rds = a ++ xs ∧ rdsL a.getLast? xs = rdsL none e.rds) [] (.back rfl ?_) ⟨rfl, rfl⟩ ?_ ?_
    · simp +contextual only [go_sem, ↓reduceIte, Nat.reduceEqDiff, Nat.reduceAdd, Nat.reduceLeDiff, Nat.reduceLT, reduceCtorEq, List.length_map]
      rfl
    · intro a hinv
      have hz : rdsL none e.rds = 0 := hinv.2.symm
      have hw : IntKind.i64.wrap ((e.rds.length : Int) - 1) = ((e.rds.length - 1 : Nat) : Int) := by
        have : 0 < e.rds.length := List.length_pos_iff.2 h0
        rw [IntKind.wrap_i64]; omega
      have hlast : e.rds[e.rds.length - 1]? = some (e.rds.getLast h0) := by rw [← List.getLast?_eq_getElem?, List.getLast?_eq_some_getLast h0]
      have hT : lastT e.rds = (e.rds.getLast h0).time := by simp [lastT, List.getLast?_eq_some_getLast h0]
      simp +contextual only [go_sem, ↓reduceIte, Nat.reduceEqDiff, Nat.reduceAdd, Nat.reduceLeDiff, Nat.reduceLT, reduceCtorEq, k23, Int.lt_irrefl, decide_false, hw, hlast, List.length_map, List.getElem?_map, Option.map_some, Int.natCast_nonneg, Int.toNat_natCast]
      rw [← hT]
      refine ⟨rfl, fun hb => ?_, fun hb => ?_⟩ <;> simp only [rdsS, h1, h3, hz, hb, cond_true, cond_false, bne_self_eq_false]
    · intro i a x xs hd hlt hx hinv
      have hw := wrap_nat hlt (by omega)
      have hi := drop_pre hd hinv.1
      obtain ⟨r1, r2, r3⟩ := rdsL_app a e.rds x xs hinv.2
      rcases List.eq_nil_or_concat a with rfl | ⟨a', y, rfl⟩
      · have i0 : i = 0 := by simpa using hi
        have hg0 : decide ((i : Int) > 0) = false := by simp [i0]
        simp +contextual only [go_sem, ↓reduceIte, Nat.reduceEqDiff, Nat.reduceAdd, Nat.reduceLeDiff, Nat.reduceLT, reduceCtorEq, k23, lt_dec hlt, hx, hg0, h43, List.length_map, List.getElem?_map, Option.map_some, Int.natCast_nonneg, Int.toNat_natCast]
        refine ⟨fun hb => ?_, fun hb => ⟨rfl, [x], ?_, .back rfl ?_⟩⟩
        · simp only [Bool.not_eq_true'] at hb
          simp [rdsS, h1, h0, r1 hb]
        · simp only [Bool.not_eq_false'] at hb
          exact ⟨hinv.1, r3 hb rfl⟩
        · simp +contextual only [go_sem, ↓reduceIte, Nat.reduceEqDiff, Nat.reduceAdd, Nat.reduceLeDiff, Nat.reduceLT, reduceCtorEq, hw]
      · have hg1 : decide ((i : Int) > 0) = true := by simp at hi ⊢; omega
        have hw1 : IntKind.i64.wrap ((i : Int) - 1) = ((i - 1 : Nat) : Int) := by
          have : 0 < i := by simpa using hg1
          rw [IntKind.wrap_i64]; omega
        have hy : e.rds[i - 1]? = some y := by
          rw [hinv.1, hi]; simp
        simp +contextual only [go_sem, ↓reduceIte, Nat.reduceEqDiff, Nat.reduceAdd, Nat.reduceLeDiff, Nat.reduceLT, reduceCtorEq, k23, lt_dec hlt, hx, hg1, hw1, hy, h43, List.length_map, List.getElem?_map, Option.map_some, Int.natCast_nonneg, Int.toNat_natCast]
        have hn : noMore (a'.concat y).getLast? x = decide (x.time ≤ y.time) := by simp [noMore]
        rw [hn] at r2 r3
        refine ⟨fun hb => ?_, fun hb => ⟨rfl, fun hc => ?_, fun hc => ⟨a'.concat y ++ [x], ?_, .back rfl ?_⟩⟩⟩
        · simp only [Bool.not_eq_true'] at hb
          simp [rdsS, h1, h0, r1 hb]
        · simp only [Bool.not_eq_false'] at hb
          simp [rdsS, h1, h0, r2 hb hc]
        · simp only [Bool.not_eq_false'] at hb
          exact ⟨by rw [hinv.1]; simp, r3 hb hc⟩
        · simp +contextual only [go_sem, ↓reduceIte, Nat.reduceEqDiff, Nat.reduceAdd, Nat.reduceLeDiff, Nat.reduceLT, reduceCtorEq, hw]
def evC (e : EvD) : Int := bif !inR 1 3 e.kind || (e.kind == 1) != (e.seq == 0) || !e.kind == 3 && e.reason != 0 || e.kind == 3 && !inR 1 6 e.reason then 1 else bif e.kind == 1 && !okName e.token then 4 else bif !e.kind == 1 && !decide (e.token = ⟨#[]⟩) then 1 else rdsS e
theorem evC_eq (e : EvD) : evC e = bif kindS e != 0 then kindS e else rdsS e := by
  have hr : (decide (e.reason < 1) || decide (e.reason > 6)) = !inR 1 6 e.reason := by rw [Bool.eq_iff_iff]; simp [inR] <;> omega
  have hr0 : (e.reason == 0) = true → inR 1 6 e.reason = false := fun h => by simp at h; simp [inR, h]
  unfold evC kindS
  rw [hr]
  simp only [bne]
  generalize inR 1 6 e.reason = r6 at hr0 ⊢
  generalize (e.reason == 0) = r0 at hr0 ⊢
  generalize (e.seq == 0) = s0
  generalize decide (e.token = ⟨#[]⟩) = t0
  generalize okName e.token = tk
  generalize rdsS e = rs
  by_cases h1 : e.kind = 1
  · have e3 : inR 1 3 e.kind = true := by simp [inR, h1]
    have b1 : (e.kind == 1) = true := by simpa using h1
    have b2 : (e.kind == 2) = false := by simp [h1]
    have b3 : (e.kind == 3) = false := by simp [h1]
    rw [e3, b1, b2, b3]
    cases r0 <;> cases s0 <;> cases t0 <;> cases tk <;> cases r6 <;> first | rfl | simp_all
  · have b1 : (e.kind == 1) = false := by simpa using h1
    by_cases h2 : e.kind = 3
    · have e3 : inR 1 3 e.kind = true := by simp [inR, h2]
      have b2 : (e.kind == 2) = false := by simp [h2]
      have b3 : (e.kind == 3) = true := by simpa using h2
      rw [e3, b1, b2, b3]
      cases r0 <;> cases s0 <;> cases t0 <;> cases tk <;> cases r6 <;> first | rfl | simp_all
    · have b3 : (e.kind == 3) = false := by simpa using h2
      by_cases h3 : e.kind = 2
      · have e3 : inR 1 3 e.kind = true := by simp [inR, h3]
        have b2 : (e.kind == 2) = true := by simpa using h3
        rw [e3, b1, b2, b3]
        cases r0 <;> cases s0 <;> cases t0 <;> cases tk <;> cases r6 <;> first | rfl | simp_all
      · have e3 : inR 1 3 e.kind = false := by simp [inR]; omega
        have b2 : (e.kind == 2) = false := by simpa using h3
        rw [e3, b1, b2, b3]
        cases r0 <;> cases s0 <;> cases t0 <;> cases tk <;> cases r6 <;> first | rfl | simp_all
theorem con10 {Φ : Specs} (hg : Idl.Good Try.prog Φ) (h20 : Φ 20 = some F49) (h21 : Φ 21 = some (FT fun (t : Int × Int × Int × Unit) => some (inR t.2.1 t.2.2.1 t.1))) (h22 : Φ 22 = some (FT fun (t : Int × Unit) => some (timeOk t.1)))
    (h23 : Φ 23 = some (FT fun (t : EvD × Unit) => some (rdsS t.1))) : Contract Try.prog 10 SEv := by
  refine conT hg k10 ic10 (by decide) fun C t r h => ?_
  obtain ⟨e, u⟩ := t
  cases h
  simp +contextual only [go_sem, ↓reduceIte, Nat.reduceEqDiff, Nat.reduceAdd, Nat.reduceLeDiff, Nat.reduceLT, reduceCtorEq, c10, k10, h20, F49, h21, h22, h23]
  have hN : (!inR 1 32 e.conn || !inR 0 2147483647 e.seq || !timeOk e.time) = !numsS e := by simp [numsS, Bool.not_and]
  have hE : evS e = bif !okName e.station || !okName e.txn then 4 else bif !numsS e then 2 else evC e := by rw [evS, evC_eq]
  rw [hN, hE]
  refine ⟨fun h1 => ?_, fun h1 => ⟨fun h2 => ?_, fun h2 => ⟨rfl, fun h3 => ?_, fun h3 => ⟨fun h4 => ?_, fun h4 => ⟨fun h5 => ?_, fun h5 => ?_⟩⟩⟩⟩⟩ <;> simp only [evC, *, cond_true, cond_false]
end Go.Proofs.Ytoccifhckpjfaaa
