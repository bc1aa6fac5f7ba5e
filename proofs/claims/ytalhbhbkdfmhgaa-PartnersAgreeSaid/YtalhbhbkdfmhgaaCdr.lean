/- The contracts of records. -/
import Derived.Test.YtalhbhbkdfmhgaaIdent
namespace Go.Proofs.Ytalhbhbkdfmhgaa
set_option linter.all false
open Go.Idl
set_option maxHeartbeats 4000000
set_option maxRecDepth 100000
attribute [local go_sem] Try.underlying3 Try.underlying5 Try.underlying9 Try.underlying21
def namesS (l : List ByteArray) : Int := if l.all okName then 0 else 4
theorem con35 {Φ : Specs} (hg : Idl.Good Try.prog Φ) (h12 : Φ 12 = some F12) : Contract Try.prog 35 (FT fun (t : List ByteArray × Unit) => if t.1.length ≤ 1000000 then some (namesS t.1) else none) := by
  refine conT hg k35 ic35 (by decide) fun C t r h => ?_
  obtain ⟨l, u⟩ := t
  dsimp only at h
  split at h
  · rename_i hl
    cases h
    simp +contextual only [go_sem, ↓reduceIte, Nat.reduceEqDiff, Nat.reduceAdd, Nat.reduceLeDiff, Nat.reduceLT, reduceCtorEq, c35, k35]
    refine TriI.loopL hg k35 l (fun i (_ : Unit) => ⟨slotsL [(5, Cod.enc l), (6, .sc (.int .i64 l.length)), (7, .sc (.int .i64 i))], objsL [], 0⟩) (fun xs _ => namesS xs = namesS l) () (.back rfl ?_) rfl ?_ ?_
    · simp +contextual only [go_sem, ↓reduceIte, Nat.reduceEqDiff, Nat.reduceAdd, Nat.reduceLeDiff, Nat.reduceLT, reduceCtorEq, List.length_map]
      rfl
    · intro _ hinv
      simp +contextual only [go_sem, ↓reduceIte, Nat.reduceEqDiff, Nat.reduceAdd, Nat.reduceLeDiff, Nat.reduceLT, reduceCtorEq, k35, Int.lt_irrefl, decide_false]
      rw [← hinv]; rfl
    · intro i _ x xs hd hlt hx hinv
      have hlt' : decide ((i : Int) < (l.length : Int)) = true := by simp; omega
      have hw : IntKind.i64.wrap ((i : Int) + 1) = ((i + 1 : Nat) : Int) := by rw [IntKind.wrap_i64]; omega
      simp +contextual only [go_sem, ↓reduceIte, Nat.reduceEqDiff, Nat.reduceAdd, Nat.reduceLeDiff, Nat.reduceLT, reduceCtorEq, k35, hlt', h12, F12, hx, List.getElem?_map, Option.map_some, Int.natCast_nonneg, Int.toNat_natCast]
      refine ⟨fun h => by rw [← hinv]; simp_all [namesS], fun h => ⟨(), ?_, .back rfl ?_⟩⟩
      · dsimp only; rw [← hinv]; simp_all [namesS]
      · simp +contextual only [go_sem, ↓reduceIte, Nat.reduceEqDiff, Nat.reduceAdd, Nat.reduceLeDiff, Nat.reduceLT, reduceCtorEq, hw]
  · cases h
def inR (lo hi x : Int) : Bool := decide (lo ≤ x) && decide (x ≤ hi)
theorem con36 {Φ : Specs} (hg : Idl.Good Try.prog Φ) : Contract Try.prog 36 (FT fun (t : Int × Int × List Int × Unit) => if t.2.2.1.length ≤ 1000000 then some (t.2.2.1.all (inR t.1 t.2.1)) else none) := by
  refine conT hg k36 ic36 (by decide) fun C t r h => ?_
  obtain ⟨lo, hi, l, u⟩ := t
  dsimp only at h
  split at h
  · rename_i hl
    cases h
    simp +contextual only [go_sem, ↓reduceIte, Nat.reduceEqDiff, Nat.reduceAdd, Nat.reduceLeDiff, Nat.reduceLT, reduceCtorEq, c36, k36]
    refine TriI.loopL hg k36 l (fun i (_ : Unit) => ⟨slotsL [(0, .sc (.int .i64 lo)), (1, .sc (.int .i64 hi)), (9, Cod.enc l), (10, .sc (.int .i64 l.length)), (11, .sc (.int .i64 i))], objsL [], 0⟩) (fun xs _ => xs.all (inR lo hi) = l.all (inR lo hi)) () (.back rfl ?_) rfl ?_ ?_
    · simp +contextual only [go_sem, ↓reduceIte, Nat.reduceEqDiff, Nat.reduceAdd, Nat.reduceLeDiff, Nat.reduceLT, reduceCtorEq, List.length_map]
      rfl
    · intro _ hinv
      simp +contextual only [go_sem, ↓reduceIte, Nat.reduceEqDiff, Nat.reduceAdd, Nat.reduceLeDiff, Nat.reduceLT, reduceCtorEq, k36, Int.lt_irrefl, decide_false]
      rw [← hinv]; rfl
    · intro i _ x xs hd hlt hx hinv
      have hlt' : decide ((i : Int) < (l.length : Int)) = true := by simp; omega
      have hw : IntKind.i64.wrap ((i : Int) + 1) = ((i + 1 : Nat) : Int) := by rw [IntKind.wrap_i64]; omega
      simp +contextual only [go_sem, ↓reduceIte, Nat.reduceEqDiff, Nat.reduceAdd, Nat.reduceLeDiff, Nat.reduceLT, reduceCtorEq, k36, hlt', hx, List.getElem?_map, Option.map_some, Int.natCast_nonneg, Int.toNat_natCast]
      have e : inR lo hi x = !(decide (x < lo) || decide (x > hi)) := by
        rw [Bool.eq_iff_iff]; simp [inR]
      refine ⟨fun h => ?_, fun h => ⟨(), ?_, .back rfl ?_⟩⟩
      · rw [← hinv, List.all_cons, e, h]; rfl
      · dsimp only; rw [← hinv, List.all_cons, e, h]; rfl
      · simp +contextual only [go_sem, ↓reduceIte, Nat.reduceEqDiff, Nat.reduceAdd, Nat.reduceLeDiff, Nat.reduceLT, reduceCtorEq, hw]
  · cases h
def capB (b : UInt8) : Bool := decide (65 ≤ b.toNat) && decide (b.toNat ≤ 90)
def curS (s : ByteArray) : Bool := decide (s.size = 3) && s.data.toList.all capB
theorem capB_eq (b : UInt8) : capB b = !(decide (((b.toNat : Nat) : Int) < 65) || decide (((b.toNat : Nat) : Int) > 90)) := by
  rw [Bool.eq_iff_iff]; simp [capB]; omega
theorem con37 {Φ : Specs} (hg : Idl.Good Try.prog Φ) : Contract Try.prog 37 (FT fun (t : ByteArray × Unit) => some (curS t.1)) := by
  refine conT hg k37 ic37 (by decide) fun C t r h => ?_
  obtain ⟨s, u⟩ := t
  cases h
  simp +contextual only [go_sem, ↓reduceIte, Nat.reduceEqDiff, Nat.reduceAdd, Nat.reduceLeDiff, Nat.reduceLT, reduceCtorEq, c37, k37]
  refine ⟨fun h => ?_, fun h => ?_⟩
  · have : ¬ s.size = 3 := by simp at h; omega
    simp [curS, this]
  · have h3 : s.size = 3 := by simp at h; omega
    refine TriI.loopL hg k37 s.data.toList (fun i (_ : Unit) => ⟨slotsL [(0, .sc (.string s)), (8, .sc (.int .i64 s.size)), (9, .sc (.int .i64 i))], objsL [], 0⟩) (fun xs _ => xs.all capB = s.data.toList.all capB) () (.back rfl ?_) rfl ?_ ?_
    · simp +contextual only [go_sem, ↓reduceIte, Nat.reduceEqDiff, Nat.reduceAdd, Nat.reduceLeDiff, Nat.reduceLT, reduceCtorEq]
      rfl
    · intro _ hinv
      simp +contextual only [go_sem, ↓reduceIte, Nat.reduceEqDiff, Nat.reduceAdd, Nat.reduceLeDiff, Nat.reduceLT, reduceCtorEq, k37, bytes_len, Int.lt_irrefl, decide_false]
      rw [curS, ← hinv, h3]; rfl
    · intro i _ b xs hd hlt hx hinv
      rw [bytes_len] at hlt
      have hw := wrap_nat hlt (by omega)
      simp +contextual only [go_sem, ↓reduceIte, Nat.reduceEqDiff, Nat.reduceAdd, Nat.reduceLeDiff, Nat.reduceLT, reduceCtorEq, k37, lt_dec hlt, hlt, bytes_get hx, Int.natCast_nonneg, Int.toNat_natCast]
      refine ⟨fun h => ?_, fun h => ⟨(), ?_, .back rfl ?_⟩⟩
      · rw [curS, ← hinv, List.all_cons, capB_eq, h]; simp
      · dsimp only; rw [← hinv, List.all_cons, capB_eq, h]; rfl
      · simp +contextual only [go_sem, ↓reduceIte, Nat.reduceEqDiff, Nat.reduceAdd, Nat.reduceLeDiff, Nat.reduceLT, reduceCtorEq, hw]
def itemS (x : ItemD) : Bool := inR 1 4 x.kind && inR 0 10000 x.tax && inR (-36028797018963968) 36028797018963968 x.net && inR (-36028797018963968) 36028797018963968 x.vat && inR (-36028797018963968) 36028797018963968 x.price && inR 0 36028797018963968 x.quantity && (x.gross == IntKind.i64.wrap (x.net + x.vat))
theorem con54 {Φ : Specs} (hg : Idl.Good Try.prog Φ) (h36 : Φ 36 = some (FT fun (t : Int × Int × List Int × Unit) => if t.2.2.1.length ≤ 1000000 then some (t.2.2.1.all (inR t.1 t.2.1)) else none)) : Contract Try.prog 54 (FT fun (t : ItemD × Unit) => some (itemS t.1)) := by
  refine conT hg k54 ic54 (by decide) fun C t r h => ?_
  obtain ⟨x, u⟩ := t
  cases h
  simp +contextual only [go_sem, ↓reduceIte, Nat.reduceEqDiff, Nat.reduceAdd, Nat.reduceLeDiff, Nat.reduceLT, reduceCtorEq, c54, k54, h36]
  simp only [itemS]
  cases inR 1 4 x.kind <;> cases inR 0 10000 x.tax <;> cases inR (-36028797018963968) 36028797018963968 x.net <;> cases inR (-36028797018963968) 36028797018963968 x.vat <;> cases inR (-36028797018963968) 36028797018963968 x.price <;> simp
def sumW : List ItemD → Int → Int
  | [], a => a
  | x :: xs, a => sumW xs (IntKind.i64.wrap (a + x.gross))
def itemsS (l : List ItemD) (total : Int) : Int := if l.all itemS = false then 1 else if total ≠ sumW l 0 then 1 else 0
theorem con38 {Φ : Specs} (hg : Idl.Good Try.prog Φ) (h54 : Φ 54 = some (FT fun (t : ItemD × Unit) => some (itemS t.1))) :
    Contract Try.prog 38 (FT fun (t : CdrD × Unit) => some (if t.1.items.length > 32 then 3 else itemsS t.1.items t.1.total)) := by
  refine conT hg k38 ic38 (by decide) fun C t r h => ?_
  obtain ⟨c, u⟩ := t
  cases h
  simp +contextual only [go_sem, ↓reduceIte, Nat.reduceEqDiff, Nat.reduceAdd, Nat.reduceLeDiff, Nat.reduceLT, reduceCtorEq, c38, k38, List.length_map]
  refine ⟨fun h => ?_, fun h => ?_⟩
  · rw [if_pos (by simp at h; omega)]
  · have h32 : ¬ c.items.length > 32 := by simp at h; omega
    rw [if_neg h32]
    refine TriI.loopL hg k38 c.items (fun i (a : Int) => ⟨slotsL [(1, .ref 0 0 0), (3, .sc (.int .i64 a)), (11, Cod.enc c.items), (12, .sc (.int .i64 c.items.length)), (13, .sc (.int .i64 i))], objsL [.live 14 [Cod.enc c] true], 1⟩)
      (fun xs a => xs.all itemS = c.items.all itemS ∧ sumW xs a = sumW c.items 0) 0 (.back rfl ?_) ⟨rfl, rfl⟩ ?_ ?_
    · simp +contextual only [go_sem, ↓reduceIte, Nat.reduceEqDiff, Nat.reduceAdd, Nat.reduceLeDiff, Nat.reduceLT, reduceCtorEq, List.length_map]
      rfl
    · intro a hinv
      simp +contextual only [go_sem, ↓reduceIte, Nat.reduceEqDiff, Nat.reduceAdd, Nat.reduceLeDiff, Nat.reduceLT, reduceCtorEq, k38, Int.lt_irrefl, decide_false]
      have h1 : c.items.all itemS = true := hinv.1.symm
      have h2 : a = sumW c.items 0 := hinv.2
      rw [h2]
      (repeat' (first | apply And.intro | intro _)) <;> (try simp_all [itemsS, h1]) <;> (try omega)
    · intro i a x xs hd hlt hx hinv
      have hw := wrap_nat hlt (by omega)
      simp +contextual only [go_sem, ↓reduceIte, Nat.reduceEqDiff, Nat.reduceAdd, Nat.reduceLeDiff, Nat.reduceLT, reduceCtorEq, k38, lt_dec hlt, h54, hx, List.getElem?_map, Option.map_some, Int.natCast_nonneg, Int.toNat_natCast]
      refine ⟨fun h => ?_, fun h => ⟨IntKind.i64.wrap (a + x.gross), ?_, .back rfl ?_⟩⟩
      · have : c.items.all itemS = false := by rw [← hinv.1]; simp_all
        simp [itemsS, this]
      · refine ⟨?_, hinv.2⟩
        rw [← hinv.1]; simp_all
      · simp +contextual only [go_sem, ↓reduceIte, Nat.reduceEqDiff, Nat.reduceAdd, Nat.reduceLeDiff, Nat.reduceLT, reduceCtorEq, hw]
def refS (c : CdrD) : Int := if c.credit = false then (if c.ref = ⟨#[]⟩ then 0 else 1) else if okName c.ref = false then 4 else if c.ref = c.id then 1 else 0
theorem con39 {Φ : Specs} (hg : Idl.Good Try.prog Φ) (h12 : Φ 12 = some F12) : Contract Try.prog 39 (FT fun (t : CdrD × Unit) => some (refS t.1)) := by
  refine conT hg k39 ic39 (by decide) fun C t r h => ?_
  obtain ⟨c, u⟩ := t
  cases h
  simp +contextual only [go_sem, ↓reduceIte, Nat.reduceEqDiff, Nat.reduceAdd, Nat.reduceLeDiff, Nat.reduceLT, reduceCtorEq, c39, k39, h12, F12]
  (repeat' (first | apply And.intro | intro _)) <;> (try simp_all [refS]) <;> (try omega)
def rangeC (c : CdrD) : Bool := inR 1 2147483647 c.version && (!(!(inR 0 268435456 c.start && inR 0 268435456 c.stop) || decide (c.start > c.stop)) && inR 0 36028797018963968 c.energy)
def itemsE (c : CdrD) : Int := if c.items.length > 32 then 3 else itemsS c.items c.total
def cdrS (c : CdrD) : Int :=
  bif namesS [c.id, c.operator, c.provider, c.session, c.tariff] != 0 then namesS [c.id, c.operator, c.provider, c.session, c.tariff]
  else bif decide (c.operator = c.provider) then 1
  else bif !rangeC c then 2
  else bif !curS c.currency then 21
  else bif itemsE c != 0 then itemsE c
  else refS c
theorem con15 {Φ : Specs} (hg : Idl.Good Try.prog Φ) (h35 : Φ 35 = some (FT fun (t : List ByteArray × Unit) => if t.1.length ≤ 1000000 then some (namesS t.1) else none))
    (h36 : Φ 36 = some (FT fun (t : Int × Int × List Int × Unit) => if t.2.2.1.length ≤ 1000000 then some (t.2.2.1.all (inR t.1 t.2.1)) else none)) (h37 : Φ 37 = some (FT fun (t : ByteArray × Unit) => some (curS t.1)))
    (h38 : Φ 38 = some (FT fun (t : CdrD × Unit) => some (if t.1.items.length > 32 then 3 else itemsS t.1.items t.1.total))) (h39 : Φ 39 = some (FT fun (t : CdrD × Unit) => some (refS t.1))) :
    Contract Try.prog 15 (FT fun (t : CdrD × Unit) => some (cdrS t.1)) := by
  refine conT hg k15 ic15 (by decide) fun C t r h => ?_
  obtain ⟨c, u⟩ := t
  cases h
  simp +contextual only [go_sem, ↓reduceIte, Nat.reduceEqDiff, Nat.reduceAdd, Nat.reduceLeDiff, Nat.reduceLT, reduceCtorEq, c15, k15, h35, h36, h37, h38, h39]
  have ei : (if c.items.length > 32 then 3 else itemsS c.items c.total) = itemsE c := rfl
  rw [ei]
  refine ⟨fun h1 => ?_, fun h1 => ⟨fun h2 => ?_, fun h2 => ⟨fun h3 => ⟨fun h4 => ⟨fun h5 => ?_, fun h5 => ⟨fun h6 => ?_, fun h6 => ⟨fun h7 => ?_, fun h7 => ?_⟩⟩⟩, fun h4 => ?_⟩, fun h3 => ?_⟩⟩⟩
  · simp only [cdrS, h1, cond_true]
  · simp only [cdrS, h1, h2, cond_true, cond_false]
  · rw [Bool.not_eq_true'] at h5; rw [Bool.not_eq_false'] at h3; simp only [cdrS, rangeC, h1, h2, h3, h4, h5, cond_true, cond_false, Bool.not_false, Bool.true_and, Bool.not_true, Bool.and_false, Bool.false_and]
  · rw [Bool.not_eq_false'] at h5 h3; simp only [cdrS, rangeC, h1, h2, h3, h4, h5, h6, cond_true, cond_false, Bool.not_false, Bool.true_and, Bool.not_true, Bool.and_false, Bool.false_and]
  · rw [Bool.not_eq_false'] at h5 h3; simp only [cdrS, rangeC, h1, h2, h3, h4, h5, h6, h7, cond_true, cond_false, Bool.not_false, Bool.true_and, Bool.not_true, Bool.and_false, Bool.false_and]
  · rw [Bool.not_eq_false'] at h5 h3; simp only [cdrS, rangeC, h1, h2, h3, h4, h5, h6, h7, cond_true, cond_false, Bool.not_false, Bool.true_and, Bool.not_true, Bool.and_false, Bool.false_and]
  · rw [Bool.not_eq_false'] at h3; simp only [cdrS, rangeC, h1, h2, h3, h4, cond_true, cond_false, Bool.not_false, Bool.true_and, Bool.not_true, Bool.and_false, Bool.false_and]
  · rw [Bool.not_eq_true'] at h3; simp only [cdrS, rangeC, h1, h2, h3, cond_true, cond_false, Bool.not_false, Bool.true_and, Bool.not_true, Bool.and_false, Bool.false_and]
abbrev SCdr : List V → Option V := FT fun (t : CdrD × Unit) => some (cdrS t.1)
end Go.Proofs.Ytalhbhbkdfmhgaa
