/- Equal records, directories and parties. -/
import Derived.Test.YtalhbhbkdfmhgaaRoam48b
namespace Go.Proofs.Ytalhbhbkdfmhgaa
set_option linter.all false
open Go.Idl
set_option maxHeartbeats 4000000
set_option maxRecDepth 100000
theorem eqItm : eqInfo Try.prog 56 = some [.i .i64, .i .i64, .i .i64, .i .i64, .i .i64, .i .i64, .i .i64] := by kernel_rfl
attribute [local go_sem] agPty agCdr agDis eqDis agDir agObj eqItm Try.underlying3 Try.underlying5 Try.underlying9 Try.underlying4
def eqIt (a b : ItemD) : Bool := a.kind == b.kind && (a.price == b.price && (a.tax == b.tax && (a.quantity == b.quantity && (a.net == b.net && (a.vat == b.vat && a.gross == b.gross)))))
theorem eqIt_iff {a b : ItemD} : eqIt a b = true ↔ a = b := by
  obtain ⟨a1, a2, a3, a4, a5, a6, a7⟩ := a
  obtain ⟨b1, b2, b3, b4, b5, b6, b7⟩ := b
  simp [eqIt]
def eqDs (a b : Disp) : Bool := decide (a.cdr = b.cdr) && (decide (a.who = b.who) && (a.state == b.state && (a.opened == b.opened && (a.claim == b.claim && a.granted == b.granted))))
theorem eqDs_iff {a b : Disp} : eqDs a b = true ↔ a = b := by
  obtain ⟨a1, a2, a3, a4, a5, a6⟩ := a
  obtain ⟨b1, b2, b3, b4, b5, b6⟩ := b
  simp [eqDs]
def eqLs {α : Type} (f : α → α → Bool) : List α → List α → Bool
  | [], [] => true
  | a :: l, b :: m => f a b && eqLs f l m
  | _, _ => false
theorem eqLs_iff {α : Type} {f : α → α → Bool} (hf : ∀ {a b}, f a b = true ↔ a = b) : ∀ {a b : List α}, eqLs f a b = true ↔ a = b
  | [], [] => by simp [eqLs]
  | [], _ :: _ => by simp [eqLs]
  | _ :: _, [] => by simp [eqLs]
  | x :: a, y :: b => by
    have ih := @eqLs_iff α f hf a b
    simp [eqLs, hf, ih]
theorem eqLs_len {α : Type} {f : α → α → Bool} (hf : ∀ {a b}, f a b = true ↔ a = b) {a b : List α} (h : a.length ≠ b.length) : eqLs f a b = false := by
  cases hs : eqLs f a b with
  | false => rfl
  | true => exact absurd (congrArg List.length ((eqLs_iff hf).1 hs)) h
def eqHd (a b : CdrD) : Bool := decide (a.id = b.id) && decide (a.operator = b.operator) && decide (a.provider = b.provider) && decide (a.session = b.session) && (a.version == b.version) && (a.start == b.start) && (a.stop == b.stop) && (a.energy == b.energy) && decide (a.tariff = b.tariff) && decide (a.currency = b.currency) && (a.total == b.total) && (a.credit == b.credit) && decide (a.ref = b.ref)
def eqC (a b : CdrD) : Bool := eqHd a b && eqLs eqIt a.items b.items
theorem eqC_iff {a b : CdrD} : eqC a b = true ↔ a = b := by
  obtain ⟨a1, a2, a3, a4, a5, a6, a7, a8, a9, a10, a11, a12, a13, a14⟩ := a
  obtain ⟨b1, b2, b3, b4, b5, b6, b7, b8, b9, b10, b11, b12, b13, b14⟩ := b
  simp only [eqC, eqHd, Bool.and_eq_true, eqLs_iff eqIt_iff, decide_eq_true_eq, beq_iff_eq, CdrD.mk.injEq, and_assoc]
  constructor
  · rintro ⟨h1, h2, h3, h4, h5, h6, h7, h8, h9, h10, h12, h13, h14, h11⟩
    exact ⟨h1, h2, h3, h4, h5, h6, h7, h8, h9, h10, h11, h12, h13, h14⟩
  · rintro ⟨h1, h2, h3, h4, h5, h6, h7, h8, h9, h10, h11, h12, h13, h14⟩
    exact ⟨h1, h2, h3, h4, h5, h6, h7, h8, h9, h10, h12, h13, h14, h11⟩
abbrev SEqC : List V → Option V := FT fun (t : CdrD × CdrD × Unit) => if t.1.items.length ≤ 1000000 ∧ t.2.1.items.length ≤ 1000000 then some (eqC t.1 t.2.1) else none
abbrev SEqI2 : List V → Option V := FT fun (t : List ItemD × List ItemD × Unit) => if t.1.length ≤ 1000000 ∧ t.2.1.length ≤ 1000000 then some (eqLs eqIt t.1 t.2.1) else none
theorem con49 {Φ : Specs} (hg : Idl.Good Try.prog Φ) : Contract Try.prog 49 SEqI2 := by
  refine conT hg k49 ic49 (by decide) fun C t r h => ?_
  obtain ⟨a, b, u⟩ := t
  dsimp only at h
  split at h
  · rename_i hl
    obtain ⟨hla, hlb⟩ := hl
    cases h
    by_cases hlen : a.length = b.length
    · have hd : ((a.length : Int) != (b.length : Int)) = false := by simp; omega
      have hz : (a.zip b).length = a.length := by rw [List.length_zip]; omega
      have hz1 : (a.zip b).map (·.1) = a := List.map_fst_zip (by omega)
      have hz2 : (a.zip b).map (·.2) = b := List.map_snd_zip (by omega)
      simp +contextual only [go_sem, ↓reduceIte, Nat.reduceEqDiff, Nat.reduceAdd, Nat.reduceLeDiff, Nat.reduceLT, reduceCtorEq, c49, k49, List.length_map, hd]
      refine TriI.loopL hg k49 (a.zip b) (fun i (_ : Unit) => ⟨slotsL [(0, Cod.enc a), (1, Cod.enc b), (12, .sc (.int .i64 a.length)), (13, .sc (.int .i64 i))], objsL [], 0⟩) (fun xs _ => eqLs eqIt (xs.map (·.1)) (xs.map (·.2)) = eqLs eqIt a b) () (.back rfl ?_) (by rw [hz1, hz2]) ?_ ?_
      · simp +contextual only [go_sem, ↓reduceIte, Nat.reduceEqDiff, Nat.reduceAdd, Nat.reduceLeDiff, Nat.reduceLT, reduceCtorEq]
        trivial
      · intro _ hinv
        rw [hz]
        simp +contextual only [go_sem, ↓reduceIte, Nat.reduceEqDiff, Nat.reduceAdd, Nat.reduceLeDiff, Nat.reduceLT, reduceCtorEq, k49, Int.lt_irrefl, decide_false]
        exact hinv
      · intro i _ x xs hdr hlt hx hinv
        rw [hz] at hlt
        have hw := wrap_nat hlt (by omega)
        obtain ⟨hx1, hx2⟩ := List.getElem?_zip_eq_some.1 hx
        have hn : eqLs eqIt (x.1 :: xs.map (·.1)) (x.2 :: xs.map (·.2)) = (eqIt x.1 x.2 && eqLs eqIt (xs.map (·.1)) (xs.map (·.2))) := rfl
        rw [List.map_cons, List.map_cons, hn] at hinv
        simp +contextual only [go_sem, ↓reduceIte, Nat.reduceEqDiff, Nat.reduceAdd, Nat.reduceLeDiff, Nat.reduceLT, reduceCtorEq, k49, lt_dec hlt, hx1, hx2, hw, List.getElem?_map, Option.map_some, Int.natCast_nonneg, Int.toNat_natCast]
        refine ⟨rfl, fun h => ?_, fun h => ⟨(), ?_, .back rfl ?_⟩⟩
        · have h0 : (!eqIt x.1 x.2) = true := h
          have h' : eqIt x.1 x.2 = false := by simpa using h0
          rw [← hinv, h', Bool.false_and]
        · have h0 : (!eqIt x.1 x.2) = false := h
          have h' : eqIt x.1 x.2 = true := by simpa using h0
          dsimp only
          rw [← hinv, h', Bool.true_and]
        · simp +contextual only [go_sem, ↓reduceIte, Nat.reduceEqDiff, Nat.reduceAdd, Nat.reduceLeDiff, Nat.reduceLT, reduceCtorEq]
    · have hd : ((a.length : Int) != (b.length : Int)) = true := by simp; omega
      have hs := eqLs_len (f := eqIt) eqIt_iff hlen
      simp +contextual only [go_sem, ↓reduceIte, Nat.reduceEqDiff, Nat.reduceAdd, Nat.reduceLeDiff, Nat.reduceLT, reduceCtorEq, c49, k49, List.length_map, hd, hs]
  · cases h
theorem con28 {Φ : Specs} (hg : Idl.Good Try.prog Φ) (h49 : Φ 49 = some SEqI2) : Contract Try.prog 28 SEqC := by
  refine conT hg k28 ic28 (by decide) fun C t r h => ?_
  obtain ⟨a, b, u⟩ := t
  dsimp only at h
  split at h
  · rename_i hl
    cases h
    simp +contextual only [go_sem, ↓reduceIte, Nat.reduceEqDiff, Nat.reduceAdd, Nat.reduceLeDiff, Nat.reduceLT, reduceCtorEq, c28, k28, h49, hl, and_self]
    rw [Bool.eq_iff_iff]
    simp only [eqC, eqHd, Bool.and_eq_true]
    constructor
    · rintro ⟨⟨⟨⟨h, q1⟩, q2⟩, q3⟩, q4⟩
      exact ⟨⟨⟨⟨h, q2⟩, q3⟩, q4⟩, q1⟩
    · rintro ⟨⟨⟨⟨h, q2⟩, q3⟩, q4⟩, q1⟩
      exact ⟨⟨⟨⟨h, q1⟩, q2⟩, q3⟩, q4⟩
  · cases h
end Go.Proofs.Ytalhbhbkdfmhgaa
