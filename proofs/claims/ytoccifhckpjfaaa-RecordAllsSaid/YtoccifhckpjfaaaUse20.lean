/- Readings: their errors, energies between them, equality. -/
import Derived.Test.YtoccifhckpjfaaaCodes
namespace Go.Proofs.Ytoccifhckpjfaaa
set_option linter.all false
open Go.Idl
set_option maxHeartbeats 4000000
set_option maxRecDepth 100000
attribute [local go_sem] Try.underlying3 Try.underlying5 Try.underlying9 Try.underlying4
def rOk (m : Int) (r : Rdg) : Bool := decide (0 ≤ r.time) && decide (r.time ≤ 268435456) && decide (0 ≤ r.reg) && decide (r.reg < m)
def uNoMore (p : Option Rdg) (r : Rdg) : Bool := match p with
  | some q => decide (r.time ≤ q.time)
  | none => false
def vrL (m : Int) (p : Option Rdg) : List Rdg → Int
  | [] => 0
  | r :: l => bif !rOk m r then 2 else bif uNoMore p r then 1 else vrL m (some r) l
def valS (l : List Rdg) (m : Int) : Int := bif decide (m < 1000) || decide (m > 1099511627776) then 2 else bif decide (l.length = 0) then 1 else bif decide (l.length > 1024) then 3 else vrL m none l
abbrev SVal : List V → Option V := FT fun (t : List Rdg × Int × Unit) => some (valS t.1 t.2.1)
theorem u_drop {α : Type} {l a xs : List α} {x : α} {i : Nat} (hd : l.drop i = x :: xs) (h : l = a ++ (x :: xs)) : i = a.length := by
  have h1 := congrArg List.length hd
  have h2 := congrArg List.length h
  simp at h1 h2
  omega
theorem u_bad (m : Int) (r : Rdg) : (decide (r.time < 0) || decide (r.time > 268435456) || decide (r.reg < 0) || decide (r.reg ≥ m)) = !rOk m r := by
  rw [Bool.eq_iff_iff]; simp [rOk]
theorem vrL_app (m : Int) (a : List Rdg) (l : List Rdg) (x : Rdg) (xs : List Rdg) (h : vrL m a.getLast? (x :: xs) = vrL m none l) : (rOk m x = false → vrL m none l = 2) ∧ (rOk m x = true → uNoMore a.getLast? x = true → vrL m none l = 1) ∧ (rOk m x = true → uNoMore a.getLast? x = false → vrL m (a ++ [x]).getLast? xs = vrL m none l) := by
  rw [← h, vrL]
  refine ⟨fun h => by simp [h], fun h1 h2 => by simp [h1, h2], fun h1 h2 => by simp [h1, h2]⟩
theorem con39 {Φ : Specs} (hg : Idl.Good Try.prog Φ) : Contract Try.prog 39 SVal := by
  refine conT hg k39 ic39 (by decide) fun C t r h => ?_
  obtain ⟨l, m, u⟩ := t
  cases h
  simp +contextual only [go_sem, ↓reduceIte, Nat.reduceEqDiff, Nat.reduceAdd, Nat.reduceLeDiff, Nat.reduceLT, reduceCtorEq, c39, k39, List.length_map]
  refine ⟨fun h => ?_, fun h => ⟨fun h2 => ?_, fun h2 => ⟨fun h3 => ?_, fun h3 => ?_⟩⟩⟩
  · simp only [valS, h, cond_true]
  · have : decide (l.length = 0) = true := by simp at h2 ⊢; simp [h2]
    simp only [valS, h, this, cond_true, cond_false]
  · have e2 : decide (l.length = 0) = false := by simp at h2 ⊢; simp [h2]
    have e3 : decide (l.length > 1024) = true := by simp at h3 ⊢; omega
    simp only [valS, h, e2, e3, cond_true, cond_false]
  · have e2 : decide (l.length = 0) = false := by simp at h2 ⊢; simp [h2]
    have e3 : decide (l.length > 1024) = false := by simp at h3 ⊢; omega
    have hv : valS l m = vrL m none l := by simp only [valS, h, e2, e3, cond_true, cond_false]
    have hl : l.length ≤ 1024 := by simpa using e3
    rw [hv]
    refine TriI.loopL hg k39 l (fun i (_ : List Rdg) => ⟨slotsL [(0, Cod.enc l), (1, .sc (.int .i64 m)), (19, Cod.enc l), (20, .sc (.int .i64 l.length)), (21, .sc (.int .i64 i))], objsL [], 0⟩)
      (fun xs a => l = a ++ xs ∧ vrL m a.getLast? xs = vrL m none l) [] (.back rfl ?_) ⟨rfl, rfl⟩ ?_ ?_
    · simp +contextual only [go_sem, ↓reduceIte, Nat.reduceEqDiff, Nat.reduceAdd, Nat.reduceLeDiff, Nat.reduceLT, reduceCtorEq, List.length_map]
      rfl
    · intro a hinv
      simp +contextual only [go_sem, ↓reduceIte, Nat.reduceEqDiff, Nat.reduceAdd, Nat.reduceLeDiff, Nat.reduceLT, reduceCtorEq, k39, Int.lt_irrefl, decide_false, List.length_map]
      exact hinv.2
    · intro i a x xs hd hlt hx hinv
      have hw := wrap_nat hlt (by omega)
      have hi := u_drop hd hinv.1
      obtain ⟨r1, r2, r3⟩ := vrL_app m a l x xs hinv.2
      rcases List.eq_nil_or_concat a with rfl | ⟨a', y, rfl⟩
      · have i0 : i = 0 := by simpa using hi
        have hg0 : decide ((i : Int) > 0) = false := by simp [i0]
        simp +contextual only [go_sem, ↓reduceIte, Nat.reduceEqDiff, Nat.reduceAdd, Nat.reduceLeDiff, Nat.reduceLT, reduceCtorEq, k39, lt_dec hlt, hx, hg0, List.getElem?_map, Option.map_some, Int.natCast_nonneg, Int.toNat_natCast, u_bad]
        refine ⟨fun hb => ?_, fun hb => ⟨rfl, [x], ?_, .back rfl ?_⟩⟩
        · simp only [Bool.not_eq_true'] at hb
          exact (r1 hb).symm
        · simp only [Bool.not_eq_false'] at hb
          exact ⟨hinv.1, r3 hb rfl⟩
        · simp +contextual only [go_sem, ↓reduceIte, Nat.reduceEqDiff, Nat.reduceAdd, Nat.reduceLeDiff, Nat.reduceLT, reduceCtorEq, hw]
      · have hg1 : decide ((i : Int) > 0) = true := by simp at hi ⊢; omega
        have hw1 : IntKind.i64.wrap ((i : Int) - 1) = ((i - 1 : Nat) : Int) := by
          have : 0 < i := by simpa using hg1
          rw [IntKind.wrap_i64]; omega
        have hy : l[i - 1]? = some y := by
          rw [hinv.1, hi]; simp
        simp +contextual only [go_sem, ↓reduceIte, Nat.reduceEqDiff, Nat.reduceAdd, Nat.reduceLeDiff, Nat.reduceLT, reduceCtorEq, k39, lt_dec hlt, hx, hg1, hw1, hy, List.getElem?_map, Option.map_some, Int.natCast_nonneg, Int.toNat_natCast, u_bad]
        have hn : uNoMore (a'.concat y).getLast? x = decide (x.time ≤ y.time) := by simp [uNoMore]
        rw [hn] at r2 r3
        refine ⟨fun hb => ?_, fun hb => ⟨rfl, fun hc => ?_, fun hc => ⟨a'.concat y ++ [x], ?_, .back rfl ?_⟩⟩⟩
        · simp only [Bool.not_eq_true'] at hb
          exact (r1 hb).symm
        · simp only [Bool.not_eq_false'] at hb
          exact (r2 hb hc).symm
        · simp only [Bool.not_eq_false'] at hb
          exact ⟨by rw [hinv.1]; simp, r3 hb hc⟩
        · simp +contextual only [go_sem, ↓reduceIte, Nat.reduceEqDiff, Nat.reduceAdd, Nat.reduceLeDiff, Nat.reduceLT, reduceCtorEq, hw]
theorem con58 {Φ : Specs} (hg : Idl.Good Try.prog Φ) : Contract Try.prog 58 SVal := by
  refine conT hg k58 ic58 (by decide) fun C t r h => ?_
  obtain ⟨l, m, u⟩ := t
  cases h
  simp +contextual only [go_sem, ↓reduceIte, Nat.reduceEqDiff, Nat.reduceAdd, Nat.reduceLeDiff, Nat.reduceLT, reduceCtorEq, c58, k58, List.length_map]
  refine ⟨fun h => ?_, fun h => ⟨fun h2 => ?_, fun h2 => ⟨fun h3 => ?_, fun h3 => ?_⟩⟩⟩
  · simp only [valS, h, cond_true]
  · have : decide (l.length = 0) = true := by simp at h2 ⊢; simp [h2]
    simp only [valS, h, this, cond_true, cond_false]
  · have e2 : decide (l.length = 0) = false := by simp at h2 ⊢; simp [h2]
    have e3 : decide (l.length > 1024) = true := by simp at h3 ⊢; omega
    simp only [valS, h, e2, e3, cond_true, cond_false]
  · have e2 : decide (l.length = 0) = false := by simp at h2 ⊢; simp [h2]
    have e3 : decide (l.length > 1024) = false := by simp at h3 ⊢; omega
    have hv : valS l m = vrL m none l := by simp only [valS, h, e2, e3, cond_true, cond_false]
    have hl : l.length ≤ 1024 := by simpa using e3
    rw [hv]
    refine TriI.loopL hg k58 l (fun i (_ : List Rdg) => ⟨slotsL [(0, Cod.enc l), (1, .sc (.int .i64 m)), (5, .sc (.int .i64 i))], objsL [], 0⟩)
      (fun xs a => l = a ++ xs ∧ vrL m a.getLast? xs = vrL m none l) [] (.back rfl ?_) ⟨rfl, rfl⟩ ?_ ?_
    · simp +contextual only [go_sem, ↓reduceIte, Nat.reduceEqDiff, Nat.reduceAdd, Nat.reduceLeDiff, Nat.reduceLT, reduceCtorEq, List.length_map]
      rfl
    · intro a hinv
      simp +contextual only [go_sem, ↓reduceIte, Nat.reduceEqDiff, Nat.reduceAdd, Nat.reduceLeDiff, Nat.reduceLT, reduceCtorEq, k58, Int.lt_irrefl, decide_false, List.length_map]
      exact hinv.2
    · intro i a x xs hd hlt hx hinv
      have hw := wrap_nat hlt (by omega)
      have hi := u_drop hd hinv.1
      obtain ⟨r1, r2, r3⟩ := vrL_app m a l x xs hinv.2
      rcases List.eq_nil_or_concat a with rfl | ⟨a', y, rfl⟩
      · have i0 : i = 0 := by simpa using hi
        have hg0 : decide ((i : Int) > 0) = false := by simp [i0]
        simp +contextual only [go_sem, ↓reduceIte, Nat.reduceEqDiff, Nat.reduceAdd, Nat.reduceLeDiff, Nat.reduceLT, reduceCtorEq, k58, lt_dec hlt, hx, hg0, List.length_map, List.getElem?_map, Option.map_some, Int.natCast_nonneg, Int.toNat_natCast, u_bad]
        refine ⟨fun hb => ?_, fun hb => ⟨rfl, [x], ?_, .back rfl ?_⟩⟩
        · simp only [Bool.not_eq_true'] at hb
          exact (r1 hb).symm
        · simp only [Bool.not_eq_false'] at hb
          exact ⟨hinv.1, r3 hb rfl⟩
        · simp +contextual only [go_sem, ↓reduceIte, Nat.reduceEqDiff, Nat.reduceAdd, Nat.reduceLeDiff, Nat.reduceLT, reduceCtorEq, hw]
      · have hg1 : decide ((i : Int) > 0) = true := by simp at hi ⊢; omega
        have hw1 : IntKind.i64.wrap ((i : Int) - 1) = ((i - 1 : Nat) : Int) := by
          have : 0 < i := by simpa using hg1
          rw [IntKind.wrap_i64]; omega
        have hy : l[i - 1]? = some y := by
          rw [hinv.1, hi]; simp
        simp +contextual only [go_sem, ↓reduceIte, Nat.reduceEqDiff, Nat.reduceAdd, Nat.reduceLeDiff, Nat.reduceLT, reduceCtorEq, k58, lt_dec hlt, hx, hg1, hw1, hy, List.length_map, List.getElem?_map, Option.map_some, Int.natCast_nonneg, Int.toNat_natCast, u_bad]
        have hn : uNoMore (a'.concat y).getLast? x = decide (x.time ≤ y.time) := by simp [uNoMore]
        rw [hn] at r2 r3
        refine ⟨fun hb => ?_, fun hb => ⟨rfl, fun hc => ?_, fun hc => ⟨a'.concat y ++ [x], ?_, .back rfl ?_⟩⟩⟩
        · simp only [Bool.not_eq_true'] at hb
          exact (r1 hb).symm
        · simp only [Bool.not_eq_false'] at hb
          exact (r2 hb hc).symm
        · simp only [Bool.not_eq_false'] at hb
          exact ⟨by rw [hinv.1]; simp, r3 hb hc⟩
        · simp +contextual only [go_sem, ↓reduceIte, Nat.reduceEqDiff, Nat.reduceAdd, Nat.reduceLeDiff, Nat.reduceLT, reduceCtorEq, hw]
def bt (m : Int) (a b : Rdg) : Int := (b.reg - a.reg) % m
theorem bt_range {m : Int} (a b : Rdg) (h : 0 < m) : 0 ≤ bt m a b ∧ bt m a b < m := ⟨Int.emod_nonneg _ (by omega), Int.emod_lt_of_pos _ h⟩
theorem con41 {Φ : Specs} (hg : Idl.Good Try.prog Φ) : Contract Try.prog 41 (FT fun (t : Int × Int × Int × Unit) => if (1000 ≤ t.2.2.1 ∧ t.2.2.1 ≤ 1099511627776) ∧ (0 ≤ t.1 ∧ t.1 < t.2.2.1) ∧ 0 ≤ t.2.1 ∧ t.2.1 < t.2.2.1 then some ((t.2.1 - t.1) % t.2.2.1, (0 : Int)) else none) := by
  refine conT hg k41 ic41 (by decide) fun C t r h => ?_
  obtain ⟨a, b, m, u⟩ := t
  dsimp only at h
  split at h
  · rename_i hc
    cases h
    obtain ⟨⟨h1, h2⟩, ⟨h3, h4⟩, h5, h6⟩ := hc
    have e1 : (decide (m < 1000) || decide (m > 1099511627776)) = false := by simp; omega
    have e2 : (decide (a < 0) || decide (a ≥ m) || decide (b < 0) || decide (b ≥ m)) = false := by simp; omega
    have m0 : m ≠ 0 := by omega
    have m0' : ¬ m = 0 := m0
    have w1 : IntKind.i64.wrap (b - a) = b - a := by rw [IntKind.wrap_i64]; omega
    have w2 : IntKind.i64.wrap (b - a + m) = b - a + m := by rw [IntKind.wrap_i64]; omega
    have w3 : (b - a + m).tmod m = (b - a) % m := by rw [Int.tmod_eq_emod_of_nonneg (by omega), Int.add_emod_right]
    have w4 : IntKind.i64.wrap ((b - a) % m) = (b - a) % m := by
      have h7 := Int.emod_nonneg (b - a) m0
      have h8 := Int.emod_lt_of_pos (b - a) (show 0 < m by omega)
      rw [IntKind.wrap_i64]; omega
    simp +contextual only [go_sem, ↓reduceIte, Nat.reduceEqDiff, Nat.reduceAdd, Nat.reduceLeDiff, Nat.reduceLT, reduceCtorEq, c41, k41, e1, e2, w1, w2, w3, w4, m0, m0', ne_eq, not_false_eq_true]
  · cases h
theorem con59 {Φ : Specs} (hg : Idl.Good Try.prog Φ) : Contract Try.prog 59 (FT fun (t : Rdg × Rdg × Int × Unit) => if (1000 ≤ t.2.2.1 ∧ t.2.2.1 ≤ 1099511627776) ∧ rOk t.2.2.1 t.1 = true ∧ rOk t.2.2.1 t.2.1 = true then some (bt t.2.2.1 t.1 t.2.1) else none) := by
  refine conT hg k59 ic59 (by decide) fun C t r h => ?_
  obtain ⟨a, b, m, u⟩ := t
  dsimp only at h
  split at h
  · rename_i hc
    cases h
    obtain ⟨⟨h1, h2⟩, h3, h4⟩ := hc
    simp only [rOk, Bool.and_eq_true, decide_eq_true_eq] at h3 h4
    have m0 : m ≠ 0 := by omega
    have m0' : ¬ m = 0 := m0
    have w1 : IntKind.i64.wrap (b.reg - a.reg) = b.reg - a.reg := by rw [IntKind.wrap_i64]; omega
    have h7 := Int.emod_nonneg (b.reg - a.reg) m0
    have h8 := Int.emod_lt_of_pos (b.reg - a.reg) (show 0 < m by omega)
    have w2 : IntKind.i64.wrap ((b.reg - a.reg).tmod m) = (b.reg - a.reg).tmod m := by
      have h9 := Int.tmod_lt_of_pos (b.reg - a.reg) (show 0 < m by omega)
      have h10 := Int.lt_tmod_of_pos (b.reg - a.reg) (show 0 < m by omega)
      rw [IntKind.wrap_i64]; omega
    have w3 : IntKind.i64.wrap ((b.reg - a.reg).tmod m + m) = (b.reg - a.reg).tmod m + m := by
      have h9 := Int.tmod_lt_of_pos (b.reg - a.reg) (show 0 < m by omega)
      have h10 := Int.lt_tmod_of_pos (b.reg - a.reg) (show 0 < m by omega)
      rw [IntKind.wrap_i64]; omega
    have w4 : ((b.reg - a.reg).tmod m + m).tmod m = (b.reg - a.reg) % m := by
      have h10 := Int.lt_tmod_of_pos (b.reg - a.reg) (show 0 < m by omega)
      rw [Int.tmod_eq_emod_of_nonneg (by omega), Int.add_emod_right]
      rw [Int.tmod_def]
      rw [Int.sub_emod, Int.mul_emod_right]; simp
    have w5 : IntKind.i64.wrap ((b.reg - a.reg) % m) = (b.reg - a.reg) % m := by rw [IntKind.wrap_i64]; omega
    simp +contextual only [go_sem, ↓reduceIte, Nat.reduceEqDiff, Nat.reduceAdd, Nat.reduceLeDiff, Nat.reduceLT, reduceCtorEq, c59, k59, w1, w2, w3, w4, w5, m0, m0', ne_eq, not_false_eq_true]
    rfl
  · cases h
theorem eqRdg : eqInfo Try.prog 34 = some [.i .i64, .i .i64] := by kernel_rfl
attribute [local go_sem] eqRdg
end Go.Proofs.Ytoccifhckpjfaaa
