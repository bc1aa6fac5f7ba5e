/- Equal lists of tokens; the errors of changes. -/
import Derived.Test.YtlkejejgaenjcaaList22d
namespace Go.Proofs.Ytlkejejgaenjcaa
set_option linter.all false
open Go.Idl
set_option maxHeartbeats 4000000
set_option maxRecDepth 100000
attribute [local go_sem] eqTok agTok agLst Try.underlying3 Try.underlying5 Try.underlying9 Try.underlying4
def eqT (a b : TokD) : Bool := decide (a.id = b.id) && (decide (a.group = b.group) && (decide (a.contract = b.contract) && (a.kind == b.kind && (a.status == b.status && a.expiry == b.expiry))))
theorem eqT_iff {a b : TokD} : eqT a b = true ↔ a = b := by
  obtain ⟨a1, a2, a3, a4, a5, a6⟩ := a
  obtain ⟨b1, b2, b3, b4, b5, b6⟩ := b
  simp [eqT, and_assoc]
def sameT : List TokD → List TokD → Bool
  | [], [] => true
  | a :: l, b :: m => eqT a b && sameT l m
  | _, _ => false
theorem sameT_iff : ∀ {a b : List TokD}, sameT a b = true ↔ a = b
  | [], [] => by simp [sameT]
  | [], _ :: _ => by simp [sameT]
  | _ :: _, [] => by simp [sameT]
  | x :: a, y :: b => by
    have ih := @sameT_iff a b
    simp [sameT, eqT_iff, ih]
theorem sameT_self (a : List TokD) : sameT a a = true := sameT_iff.2 rfl
theorem sameT_len {a b : List TokD} (h : a.length ≠ b.length) : sameT a b = false := by
  cases hs : sameT a b with
  | false => rfl
  | true => exact absurd (congrArg List.length (sameT_iff.1 hs)) h
abbrev SSmT : List V → Option V := FT fun (t : List TokD × List TokD × Unit) => if t.1.length ≤ 1000000 ∧ t.2.1.length ≤ 1000000 then some (sameT t.1 t.2.1) else none
theorem con21 {Φ : Specs} (hg : Idl.Good Try.prog Φ) : Contract Try.prog 21 SSmT := by
  refine conT hg k21 ic21 (by decide) fun C t r h => ?_
  obtain ⟨a, b, u⟩ := t
  dsimp only at h
  split at h
  · rename_i hl
    obtain ⟨hla, hlb⟩ := hl
    cases h
    by_cases hlen : a.length = b.length
    · have hd : ((a.length : Int) != (b.length : Int)) = false := by simp; omega
      have hz : (a.zip b).length = a.length := by rw [List.length_zip]; omega
      have hz1 : (a.zip b).map (·.1) = a := List.map_fst_zip (by omega)
      have hz2 : (a.zip b).map (·.2) = b := List.map_snd_zip (by omega)
      simp +contextual only [go_sem, ↓reduceIte, Nat.reduceEqDiff, Nat.reduceAdd, Nat.reduceLeDiff, Nat.reduceLT, reduceCtorEq, c21, k21, List.length_map, hd]
      refine TriI.loopL hg k21 (a.zip b) (fun i (_ : Unit) => ⟨slotsL [(0, Cod.enc a), (1, Cod.enc b), (5, .sc (.int .i64 i))], objsL [], 0⟩) (fun xs _ => sameT (xs.map (·.1)) (xs.map (·.2)) = sameT a b) () (.back rfl ?_) (by rw [hz1, hz2]) ?_ ?_
      · simp +contextual only [go_sem, ↓reduceIte, Nat.reduceEqDiff, Nat.reduceAdd, Nat.reduceLeDiff, Nat.reduceLT, reduceCtorEq]
        rfl
      · intro _ hinv
        rw [hz]
        simp +contextual only [go_sem, ↓reduceIte, Nat.reduceEqDiff, Nat.reduceAdd, Nat.reduceLeDiff, Nat.reduceLT, reduceCtorEq, k21, Int.lt_irrefl, decide_false, List.length_map]
        exact hinv
      · intro i _ x xs hdr hlt hx hinv
        rw [hz] at hlt
        have hw := wrap_nat hlt (by omega)
        obtain ⟨hx1, hx2⟩ := List.getElem?_zip_eq_some.1 hx
        have hn : sameT (x.1 :: xs.map (·.1)) (x.2 :: xs.map (·.2)) = (eqT x.1 x.2 && sameT (xs.map (·.1)) (xs.map (·.2))) := rfl
        rw [List.map_cons, List.map_cons, hn] at hinv
        simp +contextual only [go_sem, ↓reduceIte, Nat.reduceEqDiff, Nat.reduceAdd, Nat.reduceLeDiff, Nat.reduceLT, reduceCtorEq, k21, lt_dec hlt, hx1, hx2, hw, List.length_map, List.getElem?_map, Option.map_some, Int.natCast_nonneg, Int.toNat_natCast]
        refine ⟨rfl, fun h => ?_, fun h => ⟨(), ?_, .back rfl ?_⟩⟩
        · have h' : eqT x.1 x.2 = false := by simpa using (show (!eqT x.1 x.2) = true from h)
          rw [← hinv, h', Bool.false_and]
        · have h' : eqT x.1 x.2 = true := by simpa using (show (!eqT x.1 x.2) = false from h)
          dsimp only
          rw [← hinv, h', Bool.true_and]
        · simp +contextual only [go_sem, ↓reduceIte, Nat.reduceEqDiff, Nat.reduceAdd, Nat.reduceLeDiff, Nat.reduceLT, reduceCtorEq]
    · have hd : ((a.length : Int) != (b.length : Int)) = true := by simp; omega
      simp +contextual only [go_sem, ↓reduceIte, Nat.reduceEqDiff, Nat.reduceAdd, Nat.reduceLeDiff, Nat.reduceLT, reduceCtorEq, c21, k21, List.length_map, hd]
      rw [sameT_len hlen]
  · cases h
def sameLst (a b : TListD) : Bool := (a.version == b.version) && sameT a.tokens b.tokens
theorem sameLst_self (a : TListD) : sameLst a a = true := by simp [sameLst, sameT_self]
theorem sameLst_iff {a b : TListD} : sameLst a b = true ↔ a = b := by
  obtain ⟨v, l⟩ := a
  obtain ⟨w, m⟩ := b
  simp [sameLst, sameT_iff]
abbrev SSmL : List V → Option V := FT fun (t : TListD × TListD × Unit) => if t.1.tokens.length ≤ 1000000 ∧ t.2.1.tokens.length ≤ 1000000 then some (sameLst t.1 t.2.1) else none
theorem con16 {Φ : Specs} (hg : Idl.Good Try.prog Φ) (h21 : Φ 21 = some SSmT) : Contract Try.prog 16 SSmL := by
  refine conT hg k16 ic16 (by decide) fun C t r h => ?_
  obtain ⟨a, b, u⟩ := t
  dsimp only at h
  split at h
  · rename_i hl
    cases h
    simp +contextual only [go_sem, ↓reduceIte, Nat.reduceEqDiff, Nat.reduceAdd, Nat.reduceLeDiff, Nat.reduceLT, reduceCtorEq, c16, k16, h21, hl, and_self]
    constructor <;> intro h <;> simp [sameLst, h]
  · cases h
theorem con22 {Φ : Specs} (hg : Idl.Good Try.prog Φ) (h29 : Φ 29 = some SKey) : Contract Try.prog 22 (FT fun (t : List TokD × TokD × Unit) => if t.1.length ≤ 1000000 ∧ okIds t.1 = true ∧ t.2.1.id.size ≤ 1000000 then some (hasK t.1 (kT t.2.1)) else none) := by
  refine conT hg k22 ic22 (by decide) fun C t r h => ?_
  obtain ⟨l, x, u⟩ := t
  dsimp only at h
  split at h
  · rename_i hl
    obtain ⟨hl, ho, hxs⟩ := hl
    cases h
    simp +contextual only [go_sem, ↓reduceIte, Nat.reduceEqDiff, Nat.reduceAdd, Nat.reduceLeDiff, Nat.reduceLT, reduceCtorEq, c22, k22, List.length_map]
    refine TriI.loopL hg k22 l (fun i (_ : Unit) => ⟨slotsL [(0, Cod.enc l), (3, .ref 0 0 0), (7, .sc (.int .i64 l.length)), (8, .sc (.int .i64 i))], objsL [.live 6 [Cod.enc x] true], 1⟩) (fun xs _ => hasK xs (kT x) = hasK l (kT x)) () (.back rfl ?_) rfl ?_ ?_
    · simp +contextual only [go_sem, ↓reduceIte, Nat.reduceEqDiff, Nat.reduceAdd, Nat.reduceLeDiff, Nat.reduceLT, reduceCtorEq]
      rfl
    · intro _ hinv
      simp +contextual only [go_sem, ↓reduceIte, Nat.reduceEqDiff, Nat.reduceAdd, Nat.reduceLeDiff, Nat.reduceLT, reduceCtorEq, k22, Int.lt_irrefl, decide_false]
      exact hinv
    · intro i _ y xs hdr hlt hy hinv
      have hw := wrap_nat hlt (by omega)
      have hys := okIds_mem ho (List.mem_of_getElem? hy)
      simp +contextual only [go_sem, ↓reduceIte, Nat.reduceEqDiff, Nat.reduceAdd, Nat.reduceLeDiff, Nat.reduceLT, reduceCtorEq, k22, lt_dec hlt, hy, hw, hys, hxs, h29, List.length_map, List.getElem?_map, Option.map_some, Int.natCast_nonneg, Int.toNat_natCast]
      have hn : hasK (y :: xs) (kT x) = (decide (kT y = kT x) || hasK xs (kT x)) := rfl
      refine ⟨rfl, fun h => ?_, fun h => ⟨(), ?_, .back rfl ?_⟩⟩
      · have h' : decide (kT y = kT x) = true := h
        rw [← hinv, hn, h', Bool.true_or]
      · have h' : decide (kT y = kT x) = false := h
        dsimp only
        rw [← hinv, hn, h', Bool.false_or]
      · simp +contextual only [go_sem, ↓reduceIte, Nat.reduceEqDiff, Nat.reduceAdd, Nat.reduceLeDiff, Nat.reduceLT, reduceCtorEq]
  · cases h
def hasT (l : List TokD) (x : TokD) : Bool := l.any fun y => eqT y x
theorem hasT_iff {l : List TokD} {x : TokD} : hasT l x = true ↔ x ∈ l := by
  simp only [hasT, List.any_eq_true, eqT_iff]
  constructor
  · rintro ⟨y, hy, rfl⟩; exact hy
  · intro h; exact ⟨x, h, rfl⟩
theorem con23 {Φ : Specs} (hg : Idl.Good Try.prog Φ) : Contract Try.prog 23 (FT fun (t : List TokD × TokD × Unit) => if t.1.length ≤ 1000000 then some (hasT t.1 t.2.1) else none) := by
  refine conT hg k23 ic23 (by decide) fun C t r h => ?_
  obtain ⟨l, x, u⟩ := t
  dsimp only at h
  split at h
  · rename_i hl
    cases h
    simp +contextual only [go_sem, ↓reduceIte, Nat.reduceEqDiff, Nat.reduceAdd, Nat.reduceLeDiff, Nat.reduceLT, reduceCtorEq, c23, k23, List.length_map]
    refine TriI.loopL hg k23 l (fun i (_ : Unit) => ⟨slotsL [(0, Cod.enc l), (3, .ref 0 0 0), (7, .sc (.int .i64 l.length)), (8, .sc (.int .i64 i))], objsL [.live 6 [Cod.enc x] true], 1⟩) (fun xs _ => hasT xs x = hasT l x) () (.back rfl ?_) rfl ?_ ?_
    · simp +contextual only [go_sem, ↓reduceIte, Nat.reduceEqDiff, Nat.reduceAdd, Nat.reduceLeDiff, Nat.reduceLT, reduceCtorEq]
      rfl
    · intro _ hinv
      simp +contextual only [go_sem, ↓reduceIte, Nat.reduceEqDiff, Nat.reduceAdd, Nat.reduceLeDiff, Nat.reduceLT, reduceCtorEq, k23, Int.lt_irrefl, decide_false]
      exact hinv
    · intro i _ y xs hdr hlt hy hinv
      have hw := wrap_nat hlt (by omega)
      simp +contextual only [go_sem, ↓reduceIte, Nat.reduceEqDiff, Nat.reduceAdd, Nat.reduceLeDiff, Nat.reduceLT, reduceCtorEq, k23, lt_dec hlt, hy, hw, List.length_map, List.getElem?_map, Option.map_some, Int.natCast_nonneg, Int.toNat_natCast]
      have hn : hasT (y :: xs) x = (eqT y x || hasT xs x) := rfl
      refine ⟨rfl, fun h => ?_, fun h => ⟨(), ?_, .back rfl ?_⟩⟩
      · have h' : eqT y x = true := h
        rw [← hinv, hn, h', Bool.true_or]
      · have h' : eqT y x = false := h
        dsimp only
        rw [← hinv, hn, h', Bool.false_or]
      · simp +contextual only [go_sem, ↓reduceIte, Nat.reduceEqDiff, Nat.reduceAdd, Nat.reduceLeDiff, Nat.reduceLT, reduceCtorEq]
  · cases h

/-! ### The error of a change -/
def remT (t : TokD) : TokD := ⟨t.id, ⟨#[]⟩, ⟨#[]⟩, 0, 0, 0⟩
def itemS (t : TokD) : Int := bif t.status == 0 then (bif !okName t.id then 4 else bif !eqT t (remT t) then 1 else 0) else tokS t
theorem eqT_rem (t : TokD) : eqT t (remT t) = (decide (t.group = ⟨#[]⟩) && (decide (t.contract = ⟨#[]⟩) && (t.kind == 0 && (t.status == 0 && t.expiry == 0)))) := by
  unfold eqT remT
  dsimp only
  rw [decide_eq_true rfl, Bool.true_and]
abbrev SItm : List V → Option V := FT fun (t : TokD × Unit) => some (itemS t.1)
theorem con42 {Φ : Specs} (hg : Idl.Good Try.prog Φ) (h25 : Φ 25 = some STok) (h37 : Φ 37 = some F37) : Contract Try.prog 42 SItm := by
  refine conT hg k42 ic42 (by decide) fun C t r h => ?_
  obtain ⟨t, u⟩ := t
  cases h
  cases h0 : t.status == 0 with
  | true =>
    have h0' : (t.status != 0) = false := by simpa using h0
    simp +contextual only [go_sem, ↓reduceIte, Nat.reduceEqDiff, Nat.reduceAdd, Nat.reduceLeDiff, Nat.reduceLT, reduceCtorEq, c42, k42, h37, F37, h0']
    simp only [itemS, h0, cond_true, eqT_rem]
    (repeat' (first | apply And.intro | intro _)) <;> simp only [itemS, *, cond_true, cond_false]
  | false =>
    have h0' : (t.status != 0) = true := by simpa using h0
    simp +contextual only [go_sem, ↓reduceIte, Nat.reduceEqDiff, Nat.reduceAdd, Nat.reduceLeDiff, Nat.reduceLT, reduceCtorEq, c42, k42, h25, h0']
    simp only [itemS, h0, cond_false]
theorem con43 {Φ : Specs} (hg : Idl.Good Try.prog Φ) (h39 : Φ 39 = some F37) : Contract Try.prog 43 (FT fun (t : TokD × Unit) => some (bif !okName t.1.id then (4 : Int) else bif !eqT t.1 (remT t.1) then 1 else 0)) := by
  refine conT hg k43 ic43 (by decide) fun C t r h => ?_
  obtain ⟨t, u⟩ := t
  cases h
  simp +contextual only [go_sem, ↓reduceIte, Nat.reduceEqDiff, Nat.reduceAdd, Nat.reduceLeDiff, Nat.reduceLT, reduceCtorEq, c43, k43, h39, F37]
  simp only [eqT_rem]
  (repeat' (first | apply And.intro | intro _)) <;> simp only [itemS, *, cond_true, cond_false]
theorem con36 {Φ : Specs} (hg : Idl.Good Try.prog Φ) (h43 : Φ 43 = some (FT fun (t : TokD × Unit) => some (bif !okName t.1.id then (4 : Int) else bif !eqT t.1 (remT t.1) then 1 else 0))) (h28 : Φ 28 = some STok) : Contract Try.prog 36 SItm := by
  refine conT hg k36 ic36 (by decide) fun C t r h => ?_
  obtain ⟨t, u⟩ := t
  cases h
  simp +contextual only [go_sem, ↓reduceIte, Nat.reduceEqDiff, Nat.reduceAdd, Nat.reduceLeDiff, Nat.reduceLT, reduceCtorEq, c36, k36, h43, h28]
  (repeat' (first | apply And.intro | intro _)) <;> simp only [itemS, *, cond_true, cond_false]
end Go.Proofs.Ytlkejejgaenjcaa
