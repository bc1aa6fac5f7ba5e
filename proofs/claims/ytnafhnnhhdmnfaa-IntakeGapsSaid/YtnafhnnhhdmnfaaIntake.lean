/- Collections of events: order, contradictions, errors. -/
import Derived.Test.YtnafhnnhhdmnfaaEvent
import Derived.Test.YtnafhnnhhdmnfaaCompare
namespace Go.Proofs.Ytnafhnnhhdmnfaa
set_option linter.all false
open Go.Idl
set_option maxHeartbeats 4000000
set_option maxRecDepth 100000
attribute [local go_sem] Try.underlying3 Try.underlying5 Try.underlying9

abbrev SOr : List V → Option V := FT fun (t : List Int × Unit) => if t.1.length ≤ 1000000 then some (firstNZ t.1) else none
abbrev SCmpI : List V → Option V := FT fun (t : Int × Int × Unit) => some (cmpI t.1 t.2.1)
theorem agKey : agOf Try.prog 53 = some (some 3) := by kernel_rfl
attribute [local go_sem] agKey
def keyE (e : EvD) : KeyD := ⟨e.station, e.txn, e.seq⟩
def cmpT (a b : KeyD) : Int := firstNZ [cmpS a.station b.station, cmpS a.txn b.txn]
def cmpK (a b : KeyD) : Int := firstNZ [cmpT a b, cmpI a.seq b.seq]
abbrev SKey : List V → Option V := FT fun (t : EvD × Unit) => some (keyE t.1)
abbrev SCmpT : List V → Option V := FT fun (t : KeyD × KeyD × Unit) => some (cmpT t.1 t.2.1)
abbrev SCmpK : List V → Option V := FT fun (t : KeyD × KeyD × Unit) => some (cmpK t.1 t.2.1)
theorem con28 {Φ : Specs} (hg : Idl.Good Try.prog Φ) : Contract Try.prog 28 SKey := by
  refine conT hg k28 ic28 (by decide) fun C t r h => ?_
  obtain ⟨e, u⟩ := t
  cases h
  simp +contextual only [go_sem, ↓reduceIte, Nat.reduceEqDiff, Nat.reduceAdd, Nat.reduceLeDiff, Nat.reduceLT, reduceCtorEq, c28, k28]
  rfl
theorem con29 {Φ : Specs} (hg : Idl.Good Try.prog Φ) (h45 : Φ 45 = some Fcmp) (h43 : Φ 43 = some SOr) : Contract Try.prog 29 SCmpT := by
  refine conT hg k29 ic29 (by decide) fun C t r h => ?_
  obtain ⟨a, b, u⟩ := t
  cases h
  simp +contextual only [go_sem, ↓reduceIte, Nat.reduceEqDiff, Nat.reduceAdd, Nat.reduceLeDiff, Nat.reduceLT, reduceCtorEq, c29, k29, h45, Fcmp, h43, List.length_cons, List.length_nil]
  exact ⟨rfl, rfl⟩
theorem con27 {Φ : Specs} (hg : Idl.Good Try.prog Φ) (h29 : Φ 29 = some SCmpT) (h44 : Φ 44 = some SCmpI) (h43 : Φ 43 = some SOr) : Contract Try.prog 27 SCmpK := by
  refine conT hg k27 ic27 (by decide) fun C t r h => ?_
  obtain ⟨a, b, u⟩ := t
  cases h
  simp +contextual only [go_sem, ↓reduceIte, Nat.reduceEqDiff, Nat.reduceAdd, Nat.reduceLeDiff, Nat.reduceLT, reduceCtorEq, c27, k27, h29, h44, h43, List.length_cons, List.length_nil]
  exact ⟨rfl, rfl⟩
theorem cmpT_eq {a b : KeyD} : cmpT a b = 0 ↔ a.station = b.station ∧ a.txn = b.txn := by
  unfold cmpT
  by_cases h : cmpS a.station b.station = 0
  · have h' := cmpS_eq.1 h
    simp only [firstNZ, h, ne_eq, not_true, if_false, h', true_and]
    rw [← cmpS_eq]
    split <;> simp_all
  · have h' : ¬ a.station = b.station := fun e => h (cmpS_eq.2 e)
    simp [firstNZ, h, h']
def bef (a b : EvD) : Bool := decide (cmpK (keyE a) (keyE b) < 0)
def one (a b : EvD) : Bool := decide (a.station = b.station) && decide (a.txn = b.txn)
def contra (a b : EvD) : Bool := bif decide (a.seq < b.seq) then a.kind == 3 || decide (a.time > b.time) else bif decide (b.seq < a.seq) then b.kind == 3 || decide (b.time > a.time) else false
abbrev SBef : List V → Option V := FT fun (t : EvD × EvD × Unit) => some (bef t.1 t.2.1)
abbrev SOne : List V → Option V := FT fun (t : EvD × EvD × Unit) => some (one t.1 t.2.1)
abbrev SContra : List V → Option V := FT fun (t : EvD × EvD × Unit) => some (contra t.1 t.2.1)
abbrev SContraR : List V → Option V := FT fun (t : EvD × EvD × Unit) => some (one t.1 t.2.1 && contra t.1 t.2.1)
theorem con32 {Φ : Specs} (hg : Idl.Good Try.prog Φ) : Contract Try.prog 32 SBef := by
  refine conT hg k32 ic32 (by decide) fun C t r h => ?_
  obtain ⟨a, b, u⟩ := t
  cases h
  simp +contextual only [go_sem, ↓reduceIte, Nat.reduceEqDiff, Nat.reduceAdd, Nat.reduceLeDiff, Nat.reduceLT, reduceCtorEq, c32, k32]
  simp only [ltS_eq, bef, cmpK, cmpT, keyE]
  refine ⟨fun h1 => ?_, fun h1 => ⟨fun h2 => ?_, fun h2 => ?_⟩⟩
  · have : cmpS a.station b.station ≠ 0 := fun e => by simp [cmpS_eq.1 e] at h1
    simp [firstNZ, this]
  · have e1 : cmpS a.station b.station = 0 := cmpS_eq.2 (by simpa using h1)
    have : cmpS a.txn b.txn ≠ 0 := fun e => by simp [cmpS_eq.1 e] at h2
    simp [firstNZ, this, e1]
  · have e1 : cmpS a.station b.station = 0 := cmpS_eq.2 (by simpa using h1)
    have e2 : cmpS a.txn b.txn = 0 := cmpS_eq.2 (by simpa using h2)
    rw [Bool.eq_iff_iff]
    simp only [decide_eq_true_eq, firstNZ, e1, e2, cmpI]
    split
    · simp_all
    · simp only [ne_eq, not_true, if_false]
      constructor
      · intro h; omega
      · intro h; split at h <;> (try split at h) <;> omega
theorem con38 {Φ : Specs} (hg : Idl.Good Try.prog Φ) : Contract Try.prog 38 SOne := by
  refine conT hg k38 ic38 (by decide) fun C t r h => ?_
  obtain ⟨a, b, u⟩ := t
  cases h
  simp +contextual only [go_sem, ↓reduceIte, Nat.reduceEqDiff, Nat.reduceAdd, Nat.reduceLeDiff, Nat.reduceLT, reduceCtorEq, c38, k38]
  rfl
theorem con30 {Φ : Specs} (hg : Idl.Good Try.prog Φ) : Contract Try.prog 30 SContra := by
  refine conT hg k30 ic30 (by decide) fun C t r h => ?_
  obtain ⟨a, b, u⟩ := t
  cases h
  simp +contextual only [go_sem, ↓reduceIte, Nat.reduceEqDiff, Nat.reduceAdd, Nat.reduceLeDiff, Nat.reduceLT, reduceCtorEq, c30, k30]
  (repeat' (first | apply And.intro | intro _)) <;> simp only [contra, *, cond_true, cond_false]
theorem con33 {Φ : Specs} (hg : Idl.Good Try.prog Φ) (h38 : Φ 38 = some SOne) : Contract Try.prog 33 SContraR := by
  refine conT hg k33 ic33 (by decide) fun C t r h => ?_
  obtain ⟨a, b, u⟩ := t
  cases h
  simp +contextual only [go_sem, ↓reduceIte, Nat.reduceEqDiff, Nat.reduceAdd, Nat.reduceLeDiff, Nat.reduceLT, reduceCtorEq, c33, k33, h38]
  refine ⟨fun h => ?_, fun h => ⟨fun h2 => ?_, fun h2 => ?_⟩⟩
  · cases ho : one a b with
    | false => rfl
    | true =>
      have e : a.seq = b.seq := by simpa [ho] using h
      simp [contra, e]
  · simp only [Bool.or_eq_false_iff, Bool.not_eq_false', beq_eq_false_iff_ne, ne_eq] at h
    have l1 : decide (a.seq < b.seq) = false := by simp at h2 ⊢; omega
    have l2 : decide (b.seq < a.seq) = true := by simp at h2 ⊢; omega
    simp only [contra, h.1, l1, l2, cond_true, cond_false, Bool.true_and]
  · simp only [Bool.or_eq_false_iff, Bool.not_eq_false', beq_eq_false_iff_ne, ne_eq] at h
    have l1 : decide (a.seq < b.seq) = true := by simp at h2 ⊢; omega
    simp only [contra, h.1, l1, cond_true, Bool.true_and]
/-! ### The errors of a collection -/
theorem one_cmp (a b : EvD) : one a b = (cmpT (keyE a) (keyE b) == 0) := by
  rw [Bool.eq_iff_iff]; simp [one, cmpT_eq, keyE]
theorem bef_ge (a b : EvD) : (!bef a b) = decide (cmpK (keyE a) (keyE b) ≥ 0) := by
  rw [Bool.eq_iff_iff]; simp [bef]
def badP (p : Option EvD) (e : EvD) : Bool := match p with
  | some q => !bef q e || (one q e && contra q e)
  | none => false
def colL (p : Option EvD) : List EvD → Int
  | [] => 0
  | e :: l => bif evS e != 0 then evS e else bif badP p e then 1 else colL (some e) l
def colS (l : List EvD) : Int := bif decide (l.length > 4096) then 3 else colL none l
abbrev SCol : List V → Option V := FT fun (t : List EvD × Unit) => some (colS t.1)
theorem colL_app (a : List EvD) (l : List EvD) (x : EvD) (xs : List EvD) (h : colL a.getLast? (x :: xs) = colL none l) : ((evS x != 0) = true → colL none l = evS x) ∧ ((evS x != 0) = false → badP a.getLast? x = true → colL none l = 1) ∧ ((evS x != 0) = false → badP a.getLast? x = false → colL (a ++ [x]).getLast? xs = colL none l) := by
  rw [← h, colL]
  refine ⟨fun h => by simp only [h, cond_true], fun h1 h2 => by simp only [h1, h2, cond_true, cond_false], fun h1 h2 => by simp only [h1, h2, cond_false]; simp⟩
theorem con11 {Φ : Specs} (hg : Idl.Good Try.prog Φ) (h26 : Φ 26 = some SEv) (h28 : Φ 28 = some SKey) (h27 : Φ 27 = some SCmpK) (h29 : Φ 29 = some SCmpT) (h30 : Φ 30 = some SContra) :
    Contract Try.prog 11 SCol := by
  refine conT hg k11 ic11 (by decide) fun C t r h => ?_
  obtain ⟨l, u⟩ := t
  cases h
  simp +contextual only [go_sem, ↓reduceIte, Nat.reduceEqDiff, Nat.reduceAdd, Nat.reduceLeDiff, Nat.reduceLT, reduceCtorEq, c11, k11, List.length_map]
  refine ⟨fun h => ?_, fun h => ?_⟩
  · have : decide (l.length > 4096) = true := by simp at h ⊢; omega
    simp only [colS, this, cond_true]
  · have h1 : decide (l.length > 4096) = false := by simp at h ⊢; omega
    have h2 : l.length ≤ 4096 := by simpa using h1
    refine TriI.loopL hg k11 l (fun i (_ : List EvD) => ⟨slotsL [(0, Cod.enc l), (10, Cod.enc l), (11, .sc (.int .i64 l.length)), (12, .sc (.int .i64 i))], objsL [], 0⟩)
      (fun xs a => l = a ++ xs ∧ colL a.getLast? xs = colL none l) [] (.back rfl ?_) ⟨rfl, rfl⟩ ?_ ?_
    · simp +contextual only [go_sem, ↓reduceIte, Nat.reduceEqDiff, Nat.reduceAdd, Nat.reduceLeDiff, Nat.reduceLT, reduceCtorEq, List.length_map]
      rfl
    · intro a hinv
      have hz : colL none l = 0 := hinv.2.symm
      simp +contextual only [go_sem, ↓reduceIte, Nat.reduceEqDiff, Nat.reduceAdd, Nat.reduceLeDiff, Nat.reduceLT, reduceCtorEq, k11, Int.lt_irrefl, decide_false]
      simp only [colS, h1, hz, cond_false]
    · intro i a x xs hd hlt hx hinv
      have hw := wrap_nat hlt (by omega)
      have hi := drop_pre hd hinv.1
      obtain ⟨r1, r2, r3⟩ := colL_app a l x xs hinv.2
      have hS : colS l = colL none l := by simp only [colS, h1, cond_false]
      rcases List.eq_nil_or_concat a with rfl | ⟨a', y, rfl⟩
      · have i0 : i = 0 := by simpa using hi
        have hg0 : ((i : Int) == 0) = true := by simp [i0]
        simp +contextual only [go_sem, ↓reduceIte, Nat.reduceEqDiff, Nat.reduceAdd, Nat.reduceLeDiff, Nat.reduceLT, reduceCtorEq, k11, lt_dec hlt, hx, hg0, h26, List.getElem?_map, Option.map_some, Int.natCast_nonneg, Int.toNat_natCast]
        refine ⟨fun hb => ?_, fun hb => ⟨[x], ?_, .back rfl ?_⟩⟩
        · rw [hS, r1 hb]
        · exact ⟨hinv.1, r3 hb rfl⟩
        · simp +contextual only [go_sem, ↓reduceIte, Nat.reduceEqDiff, Nat.reduceAdd, Nat.reduceLeDiff, Nat.reduceLT, reduceCtorEq, hw]
      · have hg1 : ((i : Int) == 0) = false := by simp at hi ⊢; omega
        have hw1 : IntKind.i64.wrap ((i : Int) - 1) = ((i - 1 : Nat) : Int) := by
          have : 0 < i := by simp at hi; omega
          rw [IntKind.wrap_i64]; omega
        have hy : l[i - 1]? = some y := by
          rw [hinv.1, hi]; simp
        simp +contextual only [go_sem, ↓reduceIte, Nat.reduceEqDiff, Nat.reduceAdd, Nat.reduceLeDiff, Nat.reduceLT, reduceCtorEq, k11, lt_dec hlt, hx, hg1, hw1, hy, h26, h28, h27, h29, h30, List.getElem?_map, Option.map_some, Int.natCast_nonneg, Int.toNat_natCast]
        have hbad : badP (a'.concat y).getLast? x = (decide (cmpK (keyE y) (keyE x) ≥ 0) || ((cmpT (keyE y) (keyE x) == 0) && contra y x)) := by
          simp only [List.concat_eq_append, List.getLast?_append, List.getLast?_singleton, Option.some_or, badP]
          rw [one_cmp, bef_ge]
        rw [hbad] at r2 r3
        refine ⟨fun hb => by rw [hS, r1 hb], fun hb => ⟨rfl, fun hc => by rw [hS, r2 hb (by rw [hc]; rfl)], fun hc => ⟨fun he => ⟨rfl, fun hk => by rw [hS, r2 hb (by rw [he, hk]; simp)], fun hk => ⟨a'.concat y ++ [x], ⟨by rw [hinv.1]; simp, r3 hb (by rw [hc, he, hk]; rfl)⟩, .back rfl ?_⟩⟩, fun he => ⟨rfl, a'.concat y ++ [x], ⟨by rw [hinv.1]; simp, r3 hb (by rw [hc, he]; rfl)⟩, .back rfl ?_⟩⟩⟩⟩
        · simp +contextual only [go_sem, ↓reduceIte, Nat.reduceEqDiff, Nat.reduceAdd, Nat.reduceLeDiff, Nat.reduceLT, reduceCtorEq, hw]
        · simp +contextual only [go_sem, ↓reduceIte, Nat.reduceEqDiff, Nat.reduceAdd, Nat.reduceLeDiff, Nat.reduceLT, reduceCtorEq, hw]
theorem con12 {Φ : Specs} (hg : Idl.Good Try.prog Φ) (h31 : Φ 31 = some SEv) (h32 : Φ 32 = some SBef) (h33 : Φ 33 = some SContraR) :
    Contract Try.prog 12 SCol := by
  refine conT hg k12 ic12 (by decide) fun C t r h => ?_
  obtain ⟨l, u⟩ := t
  cases h
  simp +contextual only [go_sem, ↓reduceIte, Nat.reduceEqDiff, Nat.reduceAdd, Nat.reduceLeDiff, Nat.reduceLT, reduceCtorEq, c12, k12, List.length_map]
  refine ⟨fun h => ?_, fun h => ?_⟩
  · have : decide (l.length > 4096) = true := by simp at h ⊢; omega
    simp only [colS, this, cond_true]
  · have h1 : decide (l.length > 4096) = false := by simp at h ⊢; omega
    have h2 : l.length ≤ 4096 := by simpa using h1
    refine TriI.loopL hg k12 l (fun i (_ : List EvD) => ⟨slotsL [(0, Cod.enc l), (3, .sc (.int .i64 i))], objsL [], 0⟩)
      (fun xs a => l = a ++ xs ∧ colL a.getLast? xs = colL none l) [] (.back rfl ?_) ⟨rfl, rfl⟩ ?_ ?_
    · simp +contextual only [go_sem, ↓reduceIte, Nat.reduceEqDiff, Nat.reduceAdd, Nat.reduceLeDiff, Nat.reduceLT, reduceCtorEq, List.length_map]
      rfl
    · intro a hinv
      have hz : colL none l = 0 := hinv.2.symm
      simp +contextual only [go_sem, ↓reduceIte, Nat.reduceEqDiff, Nat.reduceAdd, Nat.reduceLeDiff, Nat.reduceLT, reduceCtorEq, k12, Int.lt_irrefl, decide_false, List.length_map]
      simp only [colS, h1, hz, cond_false]
    · intro i a x xs hd hlt hx hinv
      have hw := wrap_nat hlt (by omega)
      have hi := drop_pre hd hinv.1
      obtain ⟨r1, r2, r3⟩ := colL_app a l x xs hinv.2
      have hS : colS l = colL none l := by simp only [colS, h1, cond_false]
      rcases List.eq_nil_or_concat a with rfl | ⟨a', y, rfl⟩
      · have i0 : i = 0 := by simpa using hi
        have hg0 : decide ((i : Int) > 0) = false := by simp [i0]
        simp +contextual only [go_sem, ↓reduceIte, Nat.reduceEqDiff, Nat.reduceAdd, Nat.reduceLeDiff, Nat.reduceLT, reduceCtorEq, k12, lt_dec hlt, hx, hg0, h31, List.length_map, List.getElem?_map, Option.map_some, Int.natCast_nonneg, Int.toNat_natCast]
        refine ⟨fun hb => ?_, fun hb => ⟨rfl, [x], ?_, .back rfl ?_⟩⟩
        · rw [hS, r1 hb]
        · exact ⟨hinv.1, r3 hb rfl⟩
        · simp +contextual only [go_sem, ↓reduceIte, Nat.reduceEqDiff, Nat.reduceAdd, Nat.reduceLeDiff, Nat.reduceLT, reduceCtorEq, hw]
      · have hg1 : decide ((i : Int) > 0) = true := by simp at hi ⊢; omega
        have hw1 : IntKind.i64.wrap ((i : Int) - 1) = ((i - 1 : Nat) : Int) := by
          have : 0 < i := by simp at hi; omega
          rw [IntKind.wrap_i64]; omega
        have hy : l[i - 1]? = some y := by
          rw [hinv.1, hi]; simp
        simp +contextual only [go_sem, ↓reduceIte, Nat.reduceEqDiff, Nat.reduceAdd, Nat.reduceLeDiff, Nat.reduceLT, reduceCtorEq, k12, lt_dec hlt, hx, hg1, hw1, hy, h31, h32, h33, List.length_map, List.getElem?_map, Option.map_some, Int.natCast_nonneg, Int.toNat_natCast]
        have hbad : badP (a'.concat y).getLast? x = (!bef y x || (one y x && contra y x)) := by
          simp only [List.concat_eq_append, List.getLast?_append, List.getLast?_singleton, Option.some_or, badP]
        rw [hbad] at r2 r3
        refine ⟨fun hb => by rw [hS, r1 hb], fun hb => ⟨rfl, fun hc => by rw [hS, r2 hb hc], fun hc => ⟨a'.concat y ++ [x], ⟨by rw [hinv.1]; simp, r3 hb hc⟩, .back rfl ?_⟩⟩⟩
        simp +contextual only [go_sem, ↓reduceIte, Nat.reduceEqDiff, Nat.reduceAdd, Nat.reduceLeDiff, Nat.reduceLT, reduceCtorEq, hw]
end Go.Proofs.Ytnafhnnhhdmnfaa
