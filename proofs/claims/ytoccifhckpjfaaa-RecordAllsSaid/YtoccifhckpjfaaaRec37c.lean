/- Records: complete, merge, Make, Same. -/
import Derived.Test.YtoccifhckpjfaaaRec37b
namespace Go.Proofs.Ytoccifhckpjfaaa
set_option linter.all false
open Go.Idl
set_option maxHeartbeats 8000000
set_option maxRecDepth 100000
attribute [local go_sem] Try.underlying3 Try.underlying5 Try.underlying9 Try.underlying4 Try.underlying30 Try.underlying22 Try.underlying25
def has0 (l : List EvD) : Bool := l.any fun x => x.seq == 0
def hasE (l : List EvD) : Bool := l.any fun x => !(x.seq == 0) && x.kind == 3
def complS (l : List EvD) : Bool := has0 l && hasE l
abbrev SCompl : List V → Option V := FT fun (t : List EvD × Unit) => if t.1.length ≤ 1000000 then some (complS t.1) else none
theorem con17 {Φ : Specs} (hg : Idl.Good Try.prog Φ) : Contract Try.prog 17 SCompl := by
  refine conT hg k17 ic17 (by decide) fun C t r h => ?_
  obtain ⟨l, u⟩ := t
  dsimp only at h
  by_cases hl : l.length ≤ 1000000
  case neg => rw [if_neg hl] at h; cases h
  rw [if_pos hl] at h
  cases h
  simp +contextual only [go_sem, ↓reduceIte, Nat.reduceEqDiff, Nat.reduceAdd, Nat.reduceLeDiff, Nat.reduceLT, reduceCtorEq, c17, k17]
  refine TriI.scope hg k17 ?_
  simp +contextual only [go_sem, ↓reduceIte, Nat.reduceEqDiff, Nat.reduceAdd, Nat.reduceLeDiff, Nat.reduceLT, reduceCtorEq, k17]
  refine TriI.loopL hg k17 l (fun i (a : Bool × Bool) => ⟨slotsL [(3, .sc (.bool a.1)), (4, .sc (.bool a.2)), (7, Cod.enc l), (8, .sc (.int .i64 l.length)), (9, .sc (.int .i64 i))], objsL [], 0⟩)
    (fun xs a => (a.1 || has0 xs) = has0 l ∧ (a.2 || hasE xs) = hasE l ∧ (a.1 && a.2) = false) (false, false) (.back rfl ?_) ⟨rfl, rfl, rfl⟩ ?_ ?_
  · simp +contextual only [go_sem, ↓reduceIte, Nat.reduceEqDiff, Nat.reduceAdd, Nat.reduceLeDiff, Nat.reduceLT, reduceCtorEq, List.length_map]
    rfl
  · rintro ⟨s, e⟩ ⟨h1, h2, h3⟩
    have g1 : has0 l = s := by rw [← h1]; simp [has0]
    have g2 : hasE l = e := by rw [← h2]; simp [hasE]
    have hc : complS l = (s && e) := by rw [complS, g1, g2]
    rw [hc]
    dsimp only
    cases s <;> cases e <;> simp +contextual only [go_sem, ↓reduceIte, Nat.reduceEqDiff, Nat.reduceAdd, Nat.reduceLeDiff, Nat.reduceLT, reduceCtorEq, k17, Int.lt_irrefl, decide_false] <;> rfl
  · rintro i ⟨s, e⟩ x xs hd hlt hx ⟨h1, h2, h3⟩
    have hw := wrap_nat hlt (by omega)
    have e1 : has0 (x :: xs) = (x.seq == 0 || has0 xs) := rfl
    have e2 : hasE (x :: xs) = (!(x.seq == 0) && x.kind == 3 || hasE xs) := rfl
    rw [e1] at h1
    rw [e2] at h2
    dsimp only at h1 h2 h3 ⊢
    have hfin : ∀ s' e', (s' || has0 xs) = has0 l → (e' || hasE xs) = hasE l → s' = true → e' = true → true = complS l := fun s' e' g1 g2 g3 g4 => by rw [complS, ← g1, ← g2, g3, g4]; rfl
    cases b0 : (x.seq == 0) <;> cases b3 : (x.kind == 3) <;> cases s <;> cases e <;> simp only [b0, b3, Bool.true_or, Bool.false_or, Bool.true_and, Bool.false_and, Bool.not_true, Bool.not_false] at h1 h2 h3
    all_goals simp +contextual only [go_sem, ↓reduceIte, Nat.reduceEqDiff, Nat.reduceAdd, Nat.reduceLeDiff, Nat.reduceLT, reduceCtorEq, k17, lt_dec hlt, hx, b0, b3, List.length_map, List.getElem?_map, Option.map_some, Int.natCast_nonneg, Int.toNat_natCast]
    all_goals first
      | (cases h3; done)
      | (rw [complS, ← h1, ← h2]; rfl)
      | exact ⟨(false, false), ⟨by simpa using h1, by simpa using h2, rfl⟩, .back rfl (by simp +contextual only [go_sem, ↓reduceIte, Nat.reduceEqDiff, Nat.reduceAdd, Nat.reduceLeDiff, Nat.reduceLT, reduceCtorEq, hw])⟩
      | exact ⟨(true, false), ⟨by simpa using h1, by simpa using h2, rfl⟩, .back rfl (by simp +contextual only [go_sem, ↓reduceIte, Nat.reduceEqDiff, Nat.reduceAdd, Nat.reduceLeDiff, Nat.reduceLT, reduceCtorEq, hw])⟩
      | exact ⟨(false, true), ⟨by simpa using h1, by simpa using h2, rfl⟩, .back rfl (by simp +contextual only [go_sem, ↓reduceIte, Nat.reduceEqDiff, Nat.reduceAdd, Nat.reduceLeDiff, Nat.reduceLT, reduceCtorEq, hw])⟩
def mrgE : List Rdg → List EvD → List Rdg × Int
  | acc, [] => (acc, 0)
  | acc, x :: l => bif (mrgS acc x.rds).2 != 0 then ([], (mrgS acc x.rds).2) else mrgE (mrgS acc x.rds).1 l
def okRd (l : List EvD) : Bool := l.all fun x => decide (x.rds.length ≤ 1000000)
abbrev SMrgE : List V → Option V := FT fun (t : List EvD × Unit) => if t.1.length ≤ 1000000 ∧ okRd t.1 = true then some (mrgE [] t.1) else none
theorem mrgS_len {a b : List Rdg} (h : (mrgS a b).2 = 0) : (mrgS a b).1.length ≤ 1024 := by
  unfold mrgS at h ⊢
  cases h1 : (!asc a || !asc b) with
  | true => rw [h1, cond_true] at h; cases h
  | false =>
    rw [h1, cond_false] at h
    cases h2 : mrgL a b with
    | none => rw [h2] at h; cases h
    | some l =>
      rw [h2] at h
      dsimp only at h ⊢
      cases h3 : decide (l.length > 1024) with
      | true => rw [h3, cond_true] at h; cases h
      | false => rw [cond_false, cond_false]; simpa using h3
theorem con18 {Φ : Specs} (hg : Idl.Good Try.prog Φ) (h38 : Φ 38 = some SMrg) : Contract Try.prog 18 SMrgE := by
  refine conT hg k18 ic18 (by decide) fun C t r h => ?_
  obtain ⟨l, u⟩ := t
  dsimp only at h
  by_cases hl : l.length ≤ 1000000 ∧ okRd l = true
  case neg => rw [if_neg hl] at h; cases h
  rw [if_pos hl] at h
  obtain ⟨hl, hok⟩ := hl
  cases h
  simp +contextual only [go_sem, ↓reduceIte, Nat.reduceEqDiff, Nat.reduceAdd, Nat.reduceLeDiff, Nat.reduceLT, reduceCtorEq, c18, k18]
  refine TriI.loopL hg k18 l (fun i (a : V × List Rdg) => ⟨slotsL [(2, .sc (.slice none 0 0)), (3, .sc (.int .i64 0)), (4, a.1), (8, Cod.enc l), (9, .sc (.int .i64 l.length)), (10, .sc (.int .i64 i))], objsL [], 0⟩)
    (fun xs a => ((a.1 = .sc (.slice none 0 0) ∧ a.2 = []) ∨ a.1 = Cod.enc a.2) ∧ a.2.length ≤ 1024 ∧ mrgE a.2 xs = mrgE [] l ∧ okRd xs = true) (.sc (.slice none 0 0), []) (.back rfl ?_) ⟨.inl ⟨rfl, rfl⟩, by decide, rfl, hok⟩ ?_ ?_
  · simp +contextual only [go_sem, ↓reduceIte, Nat.reduceEqDiff, Nat.reduceAdd, Nat.reduceLeDiff, Nat.reduceLT, reduceCtorEq, List.length_map]
    rfl
  · rintro ⟨v, acc⟩ ⟨hv, h1, h2, h3⟩
    have hm : mrgE [] l = (acc, 0) := by rw [← h2]; rfl
    rw [hm]
    dsimp only at hv ⊢
    rcases hv with ⟨rfl, rfl⟩ | rfl
    · simp +contextual only [go_sem, ↓reduceIte, Nat.reduceEqDiff, Nat.reduceAdd, Nat.reduceLeDiff, Nat.reduceLT, reduceCtorEq, k18, Int.lt_irrefl, decide_false]
    · simp +contextual only [go_sem, ↓reduceIte, Nat.reduceEqDiff, Nat.reduceAdd, Nat.reduceLeDiff, Nat.reduceLT, reduceCtorEq, k18, Int.lt_irrefl, decide_false]
  · rintro i ⟨v, acc⟩ x xs hd hlt hx ⟨hv, h1, h2, h3⟩
    have hw := wrap_nat hlt (by omega)
    rw [okRd, List.all_cons, Bool.and_eq_true, decide_eq_true_eq] at h3
    obtain ⟨h3, h4⟩ := h3
    have hb : acc.length ≤ 1000000 ∧ x.rds.length ≤ 1000000 := ⟨by dsimp only at h1; omega, h3⟩
    have hm : mrgE acc (x :: xs) = bif (mrgS acc x.rds).2 != 0 then ([], (mrgS acc x.rds).2) else mrgE (mrgS acc x.rds).1 xs := rfl
    dsimp only at hv h2 ⊢
    have hfin : ((mrgS acc x.rds).2 != 0) = true → mrgE [] l = ([], (mrgS acc x.rds).2) := fun g => by rw [← h2, hm, g, cond_true]
    have hnext : ((mrgS acc x.rds).2 != 0) = false → (mrgS acc x.rds).1.length ≤ 1024 ∧ mrgE (mrgS acc x.rds).1 xs = mrgE [] l := fun g => ⟨mrgS_len (by simpa using g), by rw [← h2, hm, g, cond_false]⟩
    rcases hv with ⟨rfl, rfl⟩ | rfl
    · simp +contextual only [go_sem, ↓reduceIte, Nat.reduceEqDiff, Nat.reduceAdd, Nat.reduceLeDiff, Nat.reduceLT, reduceCtorEq, k18, lt_dec hlt, hx, hw, hb, h38, and_self, List.length_map, List.getElem?_map, Option.map_some, Int.natCast_nonneg, Int.toNat_natCast]
      refine ⟨fun g => (hfin g).symm, fun g => ⟨(Cod.enc (mrgS [] x.rds).1, (mrgS [] x.rds).1), ⟨.inr rfl, (hnext g).1, (hnext g).2, h4⟩, .back rfl ?_⟩⟩
      simp +contextual only [go_sem, ↓reduceIte, Nat.reduceEqDiff, Nat.reduceAdd, Nat.reduceLeDiff, Nat.reduceLT, reduceCtorEq]
    · simp +contextual only [go_sem, ↓reduceIte, Nat.reduceEqDiff, Nat.reduceAdd, Nat.reduceLeDiff, Nat.reduceLT, reduceCtorEq, k18, lt_dec hlt, hx, hw, hb, h38, and_self, List.length_map, List.getElem?_map, Option.map_some, Int.natCast_nonneg, Int.toNat_natCast]
      refine ⟨fun g => (hfin g).symm, fun g => ⟨(Cod.enc (mrgS acc x.rds).1, (mrgS acc x.rds).1), ⟨.inr rfl, (hnext g).1, (hnext g).2, h4⟩, .back rfl ?_⟩⟩
      simp +contextual only [go_sem, ↓reduceIte, Nat.reduceEqDiff, Nat.reduceAdd, Nat.reduceLeDiff, Nat.reduceLT, reduceCtorEq]
def sameRec (a b : RecD) : Bool := decide (a.station = b.station) && decide (a.txn = b.txn) && a.conn == b.conn && decide (a.token = b.token) && a.start == b.start && a.stop == b.stop && eqR a.rds b.rds && a.energy == b.energy && a.reason == b.reason && (a.denied == b.denied)
abbrev SSameR : List V → Option V := FT fun (t : RecD × RecD × Unit) => if t.1.rds.length ≤ 1000000 then some (sameRec t.1 t.2.1) else none
theorem con11 {Φ : Specs} (hg : Idl.Good Try.prog Φ) (hq : Φ 24 = some SEqR) : Contract Try.prog 11 SSameR := by
  refine conT hg k11 ic11 (by decide) fun C t r h => ?_
  obtain ⟨a, b, u⟩ := t
  dsimp only at h
  split at h
  · rename_i hle
    cases h
    simp +contextual only [go_sem, ↓reduceIte, Nat.reduceEqDiff, Nat.reduceAdd, Nat.reduceLeDiff, Nat.reduceLT, reduceCtorEq, c11, k11, hq, hle]
    rfl
  · cases h
def zeroR : RecD := ⟨⟨#[]⟩, ⟨#[]⟩, 0, ⟨#[]⟩, 0, 0, [], 0, 0, false, false⟩
def badM (c : Int) : List EvD → Bool
  | [] => false
  | x :: l => (x.kind == 3 && decide (l ≠ [])) || x.conn != c || badM c l
def offS (l : List EvD) : Bool := l.any fun x => x.offline
def hdE (l : List EvD) : EvD := l.head?.getD dfE
def ltE (l : List EvD) : EvD := l.getLast?.getD dfE
def rdOff (s e : EvD) (g : List Rdg) : Bool := decide (g.length = 0) || (g.head?.map (·.time)).getD 0 != s.time || lastT g != e.time
def recOf (s e : EvD) (o : Bool) (g : List Rdg) (t : Int) : RecD := ⟨s.station, s.txn, s.conn, s.token, s.time, e.time, g, t, e.reason, o, e.reason == 5⟩
def makeE (es : List EvD) (m : Int) : RecD × Int :=
  bif !complS es then (zeroR, 22) else bif badM (hdE es).conn es then (zeroR, 1) else bif (mrgE [] es).2 != 0 then (zeroR, (mrgE [] es).2) else
  bif rdOff (hdE es) (ltE es) (mrgE [] es).1 then (zeroR, 1) else bif (totS (mrgE [] es).1 m).2 != 0 then (zeroR, (totS (mrgE [] es).1 m).2) else
  bif decide ((totS (mrgE [] es).1 m).1 > 1099511627776) then (zeroR, 2) else (recOf (hdE es) (ltE es) (offS es) (mrgE [] es).1 (totS (mrgE [] es).1 m).1, 0)
def makeS (l : List EvD) (m : Int) : RecD × Int := bif decide (l.length = 0) then (zeroR, 8) else bif (orderS l).2 != 0 then (zeroR, (orderS l).2) else makeE (orderS l).1 m
end Go.Proofs.Ytoccifhckpjfaaa
