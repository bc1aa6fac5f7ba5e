/- Which events are the same. -/
import Derived.Test.YtoccifhckpjfaaaEvent
namespace Go.Proofs.Ytoccifhckpjfaaa
set_option linter.all false
open Go.Idl
set_option maxHeartbeats 4000000
set_option maxRecDepth 100000
theorem eqRdg : eqInfo Try.prog 34 = some [.i .i64, .i .i64] := by kernel_rfl
attribute [local go_sem] Try.underlying3 Try.underlying5 Try.underlying9 Try.underlying4 eqRdg
def eqR : List Rdg → List Rdg → Bool
  | [], [] => true
  | x :: xs, y :: ys => (x.time == y.time && x.reg == y.reg) && eqR xs ys
  | _, _ => false
theorem eqR_len : ∀ {a b : List Rdg}, a.length ≠ b.length → eqR a b = false
  | [], [], h => absurd rfl h
  | x :: xs, y :: ys, h => by simp only [eqR]; rw [eqR_len (by simpa using h)]; simp
  | [], _ :: _, _ => rfl
  | _ :: _, [], _ => rfl
theorem eqR_iff : ∀ {a b : List Rdg}, eqR a b = true ↔ a = b
  | [], [] => by simp [eqR]
  | ⟨x1, x2⟩ :: xs, ⟨y1, y2⟩ :: ys => by simp [eqR, eqR_iff (a := xs) (b := ys)]
  | [], _ :: _ => by simp [eqR]
  | _ :: _, [] => by simp [eqR]
abbrev SEqR : List V → Option V := FT fun (t : List Rdg × List Rdg × Unit) => if t.1.length ≤ 1000000 then some (eqR t.1 t.2.1) else none
theorem con24 {Φ : Specs} (hg : Idl.Good Try.prog Φ) : Contract Try.prog 24 SEqR := by
  refine conT hg k24 ic24 (by decide) fun C t r h => ?_
  obtain ⟨a, b, u⟩ := t
  dsimp only at h
  split at h
  · rename_i hle
    cases h
    simp +contextual only [go_sem, ↓reduceIte, Nat.reduceEqDiff, Nat.reduceAdd, Nat.reduceLeDiff, Nat.reduceLT, reduceCtorEq, c24, k24, List.length_map]
    refine ⟨fun h => (eqR_len (fun e => by simp [e] at h)).symm, fun h => ?_⟩
    have h1 : a.length = b.length := by simp at h; omega
    refine TriI.loopL hg k24 a (fun i (_ : List Rdg × List Rdg) => ⟨slotsL [(0, Cod.enc a), (1, Cod.enc b), (12, .sc (.int .i64 a.length)), (13, .sc (.int .i64 i))], objsL [], 0⟩)
      (fun xs p => a = p.1 ++ xs ∧ b.drop p.1.length = p.2 ∧ xs.length = p.2.length ∧ eqR xs p.2 = eqR a b) ([], b) (.back rfl ?_) ⟨rfl, rfl, h1, rfl⟩ ?_ ?_
    · simp +contextual only [go_sem, ↓reduceIte, Nat.reduceEqDiff, Nat.reduceAdd, Nat.reduceLeDiff, Nat.reduceLT, reduceCtorEq]
      rfl
    · rintro ⟨p, ys⟩ ⟨i1, i2, i3, i4⟩
      have e : ys = [] := List.eq_nil_of_length_eq_zero i3.symm
      dsimp only at i4
      rw [e] at i4
      simp +contextual only [go_sem, ↓reduceIte, Nat.reduceEqDiff, Nat.reduceAdd, Nat.reduceLeDiff, Nat.reduceLT, reduceCtorEq, k24, Int.lt_irrefl, decide_false]
      rw [← i4]; rfl
    · rintro i ⟨p, ys⟩ x xs hd hlt hx ⟨i1, i2, i3, i4⟩
      dsimp only at i1 i2 i3 i4
      have hw := wrap_nat hlt (by omega)
      have hi := drop_pre hd i1
      cases ys with
      | nil => simp at i3
      | cons y ys =>
        have hy : b[i]? = some y := by
          rw [hi]
          have := congrArg (fun l => l[0]?) i2
          simpa using this
        have hb2 : b.drop (p ++ [x]).length = ys := by
          have := congrArg (List.drop 1) i2
          simpa using this
        simp only [eqR] at i4
        simp +contextual only [go_sem, ↓reduceIte, Nat.reduceEqDiff, Nat.reduceAdd, Nat.reduceLeDiff, Nat.reduceLT, reduceCtorEq, k24, lt_dec hlt, hx, hy, List.getElem?_map, Option.map_some, Int.natCast_nonneg, Int.toNat_natCast]
        refine ⟨rfl, fun hc => ?_, fun hc => ⟨(p ++ [x], ys), ⟨by rw [i1]; simp, hb2, by simpa using i3, ?_⟩, .back rfl ?_⟩⟩
        · rw [← i4]
          have : (x.time == y.time && x.reg == y.reg) = false := by rw [← Bool.not_eq_true']; exact hc
          simp [this]
        · rw [← i4]
          have : (x.time == y.time && x.reg == y.reg) = true := by simpa using hc
          simp [this]
        · simp +contextual only [go_sem, ↓reduceIte, Nat.reduceEqDiff, Nat.reduceAdd, Nat.reduceLeDiff, Nat.reduceLT, reduceCtorEq, hw]
  · cases h
theorem con44 {Φ : Specs} (hg : Idl.Good Try.prog Φ) : Contract Try.prog 44 SEqR := by
  refine conT hg k44 ic44 (by decide) fun C t r h => ?_
  obtain ⟨a, b, u⟩ := t
  dsimp only at h
  split at h
  · rename_i hle
    cases h
    simp +contextual only [go_sem, ↓reduceIte, Nat.reduceEqDiff, Nat.reduceAdd, Nat.reduceLeDiff, Nat.reduceLT, reduceCtorEq, c44, k44, List.length_map]
    refine ⟨fun h => (eqR_len (fun e => by simp [e] at h)).symm, fun h => ?_⟩
    have h1 : a.length = b.length := by simp at h; omega
    refine TriI.loopL hg k44 a (fun i (_ : List Rdg × List Rdg) => ⟨slotsL [(0, Cod.enc a), (1, Cod.enc b), (5, .sc (.int .i64 i))], objsL [], 0⟩)
      (fun xs p => a = p.1 ++ xs ∧ b.drop p.1.length = p.2 ∧ xs.length = p.2.length ∧ eqR xs p.2 = eqR a b) ([], b) (.back rfl ?_) ⟨rfl, rfl, h1, rfl⟩ ?_ ?_
    · simp +contextual only [go_sem, ↓reduceIte, Nat.reduceEqDiff, Nat.reduceAdd, Nat.reduceLeDiff, Nat.reduceLT, reduceCtorEq]
      rfl
    · rintro ⟨p, ys⟩ ⟨i1, i2, i3, i4⟩
      have e : ys = [] := List.eq_nil_of_length_eq_zero i3.symm
      dsimp only at i4
      rw [e] at i4
      simp +contextual only [go_sem, ↓reduceIte, Nat.reduceEqDiff, Nat.reduceAdd, Nat.reduceLeDiff, Nat.reduceLT, reduceCtorEq, k44, Int.lt_irrefl, decide_false, List.length_map]
      rw [← i4]; rfl
    · rintro i ⟨p, ys⟩ x xs hd hlt hx ⟨i1, i2, i3, i4⟩
      dsimp only at i1 i2 i3 i4
      have hw := wrap_nat hlt (by omega)
      have hi := drop_pre hd i1
      cases ys with
      | nil => simp at i3
      | cons y ys =>
        have hy : b[i]? = some y := by
          rw [hi]
          have := congrArg (fun l => l[0]?) i2
          simpa using this
        have hb2 : b.drop (p ++ [x]).length = ys := by
          have := congrArg (List.drop 1) i2
          simpa using this
        simp only [eqR] at i4
        simp +contextual only [go_sem, ↓reduceIte, Nat.reduceEqDiff, Nat.reduceAdd, Nat.reduceLeDiff, Nat.reduceLT, reduceCtorEq, k44, lt_dec hlt, hx, hy, List.length_map, List.getElem?_map, Option.map_some, Int.natCast_nonneg, Int.toNat_natCast]
        refine ⟨rfl, fun hc => ?_, fun hc => ⟨(p ++ [x], ys), ⟨by rw [i1]; simp, hb2, by simpa using i3, ?_⟩, .back rfl ?_⟩⟩
        · rw [← i4]
          have : (x.time == y.time && x.reg == y.reg) = false := by rw [← Bool.not_eq_true']; exact hc
          simp [this]
        · rw [← i4]
          have : (x.time == y.time && x.reg == y.reg) = true := by simpa using hc
          simp [this]
        · simp +contextual only [go_sem, ↓reduceIte, Nat.reduceEqDiff, Nat.reduceAdd, Nat.reduceLeDiff, Nat.reduceLT, reduceCtorEq, hw]
  · cases h
def sameE (a b : EvD) : Bool := decide (a.station = b.station) && decide (a.txn = b.txn) && a.conn == b.conn && a.seq == b.seq && a.kind == b.kind && a.time == b.time && decide (a.token = b.token) && (a.offline == b.offline) && a.reason == b.reason && eqR a.rds b.rds
theorem sameE_iff {a b : EvD} : sameE a b = true ↔ a = b := by
  obtain ⟨a1, a2, a3, a4, a5, a6, a7, a8, a9, a10⟩ := a
  obtain ⟨b1, b2, b3, b4, b5, b6, b7, b8, b9, b10⟩ := b
  simp [sameE, eqR_iff, and_assoc]
abbrev SSame : List V → Option V := FT fun (t : EvD × EvD × Unit) => if t.1.rds.length ≤ 1000000 then some (sameE t.1 t.2.1) else none
theorem con37 {Φ : Specs} (hg : Idl.Good Try.prog Φ) (hq : Φ 24 = some SEqR) : Contract Try.prog 37 SSame := by
  refine conT hg k37 ic37 (by decide) fun C t r h => ?_
  obtain ⟨a, b, u⟩ := t
  dsimp only at h
  split at h
  · rename_i hle
    cases h
    simp +contextual only [go_sem, ↓reduceIte, Nat.reduceEqDiff, Nat.reduceAdd, Nat.reduceLeDiff, Nat.reduceLT, reduceCtorEq, c37, k37, hq, hle]
    rfl
  · cases h
theorem con26 {Φ : Specs} (hg : Idl.Good Try.prog Φ) (hq : Φ 44 = some SEqR) : Contract Try.prog 26 SSame := by
  refine conT hg k26 ic26 (by decide) fun C t r h => ?_
  obtain ⟨a, b, u⟩ := t
  dsimp only at h
  split at h
  · rename_i hle
    cases h
    simp +contextual only [go_sem, ↓reduceIte, Nat.reduceEqDiff, Nat.reduceAdd, Nat.reduceLeDiff, Nat.reduceLT, reduceCtorEq, c26, k26, hq, hle]
    refine ⟨fun h => ?_, fun h => ?_⟩
    · have : ¬ sameE a b = true := fun e => by
        rw [sameE_iff] at e
        subst e
        simp at h
      rw [Bool.not_eq_true] at this; exact this.symm
    · simp only [Bool.or_eq_false_iff, Bool.not_eq_false', bne_eq_false_iff_eq] at h
      obtain ⟨⟨⟨⟨⟨h1, h2⟩, h3⟩, h4⟩, h5⟩, h6⟩ := h
      simp [sameE, h1, h2, h3, h4, h5, h6]
  · cases h
end Go.Proofs.Ytoccifhckpjfaaa
