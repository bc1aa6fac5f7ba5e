/- Comparing: strings, numbers, the first of some that is not zero. -/
import Derived.Test.YtnafhnnhhdmnfaaCodes
import Derived.Lib.Strings
import Derived.Lib.Slices
import Derived.Lib.Walk
import Derived.Lib.Bytealg
namespace Go.Proofs.Ytnafhnnhhdmnfaa
set_option linter.all false
open Go.Idl
set_option maxHeartbeats 4000000
set_option maxRecDepth 100000
attribute [local go_sem] Try.underlying3 Try.underlying5 Try.underlying9

def cmpS (a b : ByteArray) : Int := Lib.compareBytes a.data.toList b.data.toList
def Fcmp : List V → Option V
  | [.sc (.string a), .sc (.string b)] => some (.sc (.int .i64 (cmpS a b)))
  | _ => none
theorem run56 (a b : ByteArray) (w : World) :
    Calls Try.prog 56 #[.string a, .string b] w fun e w' => e = .returned (.int .i64 (Lib.compareBytes a.data.toList b.data.toList)) ∧ w' = w := by
  go_enter Try.func56, Try.ntmps56
  go_wp2
  rw [run_callFunc_extern Try.func59 (by kernel_rfl) (by kernel_rfl) (by kernel_rfl) (e := Extern.BytealgCompare.compare) (by kernel_rfl), Lib.run_compareString]
  simp only [Result.andThen]
  rw [Oper.upon_value]
  go_wp2
  go_ret
  exact ⟨rfl, rfl⟩
theorem con56 : Contract Try.prog 56 Fcmp := by
  intro I w args xs r hl hr hI h
  unfold Fcmp at h
  split at h
  · rename_i a b
    cases h
    have hsz : args.size = 2 := hl.symm
    have h0 := (hr 0 _ args[0] rfl (by simp [hsz])).sc_eq
    have h1 := (hr 1 _ args[1] rfl (by simp [hsz])).sc_eq
    have ha : args = #[.string a, .string b] := by
      apply Array.ext
      · simp [hsz]
      · intro i hi _
        have : i = 0 ∨ i = 1 := by omega
        rcases this with rfl | rfl
        · simpa using h0
        · simpa using h1
    rw [ha]
    refine (run56 a b w).mono ?_
    rintro e w' ⟨rfl, rfl⟩
    exact ⟨_, rfl, RowKit.Below.refl _ _, .sc _ _⟩
  · cases h
theorem con45 {Φ : Specs} (hg : Idl.Good Try.prog Φ) (h56 : Φ 56 = some Fcmp) : Contract Try.prog 45 Fcmp := by
  refine contractL hg k45 ic45 (fun xs r h => ?_) fun C xs r h => ?_
  · unfold Fcmp at h; split at h <;> simp_all
  · unfold Fcmp at h
    split at h
    · rename_i a b
      cases h
      simp +contextual only [go_sem, ↓reduceIte, Nat.reduceEqDiff, Nat.reduceAdd, Nat.reduceLeDiff, Nat.reduceLT, reduceCtorEq, c45, k45, h56, Fcmp]
    · cases h
def cmpI (a b : Int) : Int := if a < b then -1 else if b < a then 1 else 0
theorem con55 {Φ : Specs} (hg : Idl.Good Try.prog Φ) : Contract Try.prog 55 (FT fun (t : Int × Unit) => some false) := by
  refine conT hg k55 ic55 (by decide) fun C t r h => ?_
  obtain ⟨a, u⟩ := t
  cases h
  simp +contextual only [go_sem, ↓reduceIte, Nat.reduceEqDiff, Nat.reduceAdd, Nat.reduceLeDiff, Nat.reduceLT, reduceCtorEq, c55, k55]
theorem con44 {Φ : Specs} (hg : Idl.Good Try.prog Φ) (h55 : Φ 55 = some (FT fun (t : Int × Unit) => some false)) : Contract Try.prog 44 (FT fun (t : Int × Int × Unit) => some (cmpI t.1 t.2.1)) := by
  refine conT hg k44 ic44 (by decide) fun C t r h => ?_
  obtain ⟨a, b, u⟩ := t
  cases h
  simp +contextual only [go_sem, ↓reduceIte, Nat.reduceEqDiff, Nat.reduceAdd, Nat.reduceLeDiff, Nat.reduceLT, reduceCtorEq, c44, k44, h55]
  (repeat' (first | apply And.intro | intro _)) <;> (try simp_all [cmpI]) <;> (try omega)
def firstNZ : List Int → Int
  | [] => 0
  | a :: l => if a ≠ 0 then a else firstNZ l
theorem con43 {Φ : Specs} (hg : Idl.Good Try.prog Φ) : Contract Try.prog 43 (FT fun (t : List Int × Unit) => if t.1.length ≤ 1000000 then some (firstNZ t.1) else none) := by
  refine conT hg k43 ic43 (by decide) fun C t r h => ?_
  obtain ⟨l, u⟩ := t
  dsimp only at h
  split at h
  · rename_i hl
    cases h
    simp +contextual only [go_sem, ↓reduceIte, Nat.reduceEqDiff, Nat.reduceAdd, Nat.reduceLeDiff, Nat.reduceLT, reduceCtorEq, c43, k43]
    refine TriI.loopL hg k43 l (fun i (_ : Unit) => ⟨slotsL [(3, .sc (.int .i64 0)), (6, Cod.enc l), (7, .sc (.int .i64 l.length)), (8, .sc (.int .i64 i))], objsL [], 0⟩) (fun xs _ => firstNZ xs = firstNZ l) () (.back rfl ?_) rfl ?_ ?_
    · simp +contextual only [go_sem, ↓reduceIte, Nat.reduceEqDiff, Nat.reduceAdd, Nat.reduceLeDiff, Nat.reduceLT, reduceCtorEq, List.length_map]
      rfl
    · intro _ hinv
      simp +contextual only [go_sem, ↓reduceIte, Nat.reduceEqDiff, Nat.reduceAdd, Nat.reduceLeDiff, Nat.reduceLT, reduceCtorEq, k43, Int.lt_irrefl, decide_false]
      rw [← hinv]; rfl
    · intro i _ x xs hd hlt hx hinv
      have hw := wrap_nat hlt (by omega)
      simp +contextual only [go_sem, ↓reduceIte, Nat.reduceEqDiff, Nat.reduceAdd, Nat.reduceLeDiff, Nat.reduceLT, reduceCtorEq, k43, lt_dec hlt, hx, List.getElem?_map, Option.map_some, Int.natCast_nonneg, Int.toNat_natCast]
      refine ⟨fun h => by rw [← hinv]; simp_all [firstNZ], fun h => ⟨(), ?_, .back rfl ?_⟩⟩
      · dsimp only; rw [← hinv]; simp_all [firstNZ]
      · simp +contextual only [go_sem, ↓reduceIte, Nat.reduceEqDiff, Nat.reduceAdd, Nat.reduceLeDiff, Nat.reduceLT, reduceCtorEq, hw]
  · cases h
theorem cmpB_eq : ∀ (a b : List UInt8), Lib.compareBytes a b = 0 ↔ a = b
  | [], [] => by simp [Lib.compareBytes]
  | [], _ :: _ => by simp [Lib.compareBytes]
  | _ :: _, [] => by simp [Lib.compareBytes]
  | x :: a, y :: b => by
    rw [Lib.compareBytes]
    have ih := cmpB_eq a b
    split
    · rename_i h; constructor
      · intro h'; omega
      · intro h'; cases h'; exact absurd h (UInt8.lt_irrefl _)
    · split
      · rename_i h; constructor
        · intro h'; omega
        · intro h'; cases h'; exact absurd h (UInt8.lt_irrefl _)
      · rename_i h1 h2
        have : x = y := UInt8.le_antisymm (UInt8.not_lt.1 h2) (UInt8.not_lt.1 h1)
        rw [ih, this]; simp
theorem cmpB_lt : ∀ (a b : List UInt8), Op.bytesLess a b = decide (Lib.compareBytes a b < 0)
  | [], [] => by simp [Lib.compareBytes, Op.bytesLess]
  | [], _ :: _ => by simp [Lib.compareBytes, Op.bytesLess]
  | _ :: _, [] => by simp [Lib.compareBytes, Op.bytesLess]
  | x :: a, y :: b => by
    rw [Lib.compareBytes, Op.bytesLess]
    have ih := cmpB_lt a b
    by_cases h1 : x < y
    · simp [h1]
    · by_cases h2 : y < x
      · have : x ≠ y := fun e => by subst e; exact UInt8.lt_irrefl _ h2
        simp [h1, h2, this]
      · have : x = y := UInt8.le_antisymm (UInt8.not_lt.1 h2) (UInt8.not_lt.1 h1)
        subst this
        simp [h1, ih]
theorem cmpB_anti : ∀ (a b : List UInt8), Lib.compareBytes b a = - Lib.compareBytes a b
  | [], [] => by simp [Lib.compareBytes]
  | [], _ :: _ => by simp [Lib.compareBytes]
  | _ :: _, [] => by simp [Lib.compareBytes]
  | x :: a, y :: b => by
    rw [Lib.compareBytes, Lib.compareBytes]
    have ih := cmpB_anti a b
    by_cases h1 : x < y
    · have h2 : ¬ y < x := fun h => UInt8.lt_irrefl _ (UInt8.lt_trans h h1)
      simp [h1, h2]
    · by_cases h2 : y < x
      · simp [h1, h2]
      · simp [h1, h2, ih]
theorem cmpB_trans : ∀ (a b c : List UInt8), Lib.compareBytes a b < 0 → Lib.compareBytes b c < 0 → Lib.compareBytes a c < 0
  | [], [], c, h1, _ => by simp [Lib.compareBytes] at h1
  | [], _ :: _, [], _, h2 => by simp [Lib.compareBytes] at h2
  | [], _ :: _, _ :: _, _, _ => by simp [Lib.compareBytes]
  | _ :: _, [], c, h1, _ => by simp [Lib.compareBytes] at h1
  | _ :: _, _ :: _, [], _, h2 => by simp [Lib.compareBytes] at h2
  | x :: a, y :: b, z :: c, h1, h2 => by
    rw [Lib.compareBytes] at h1 h2 ⊢
    have ih := cmpB_trans a b c
    by_cases p1 : x < y
    · by_cases p2 : y < z
      · simp [UInt8.lt_trans p1 p2]
      · by_cases p3 : z < y
        · simp [p2, p3] at h2
        · have : y = z := UInt8.le_antisymm (UInt8.not_lt.1 p3) (UInt8.not_lt.1 p2)
          subst this; simp [p1]
    · by_cases p2 : y < x
      · simp [p1, p2] at h1
      · have : x = y := UInt8.le_antisymm (UInt8.not_lt.1 p2) (UInt8.not_lt.1 p1)
        subst this
        simp [p1] at h1
        by_cases p3 : x < z
        · simp [p3]
        · by_cases p4 : z < x
          · simp [p3, p4] at h2
          · simp [p3, p4] at h2 ⊢
            exact ih h1 h2
theorem cmpB_dom : ∀ (a b : List UInt8), Lib.compareBytes a b = -1 ∨ Lib.compareBytes a b = 0 ∨ Lib.compareBytes a b = 1
  | [], [] => by simp [Lib.compareBytes]
  | [], _ :: _ => by simp [Lib.compareBytes]
  | _ :: _, [] => by simp [Lib.compareBytes]
  | x :: a, y :: b => by
    rw [Lib.compareBytes]
    split
    · simp
    · split
      · simp
      · exact cmpB_dom a b
theorem ba_ext {a b : ByteArray} (h : a.data.toList = b.data.toList) : a = b := by
  cases a with | mk x => cases b with | mk y => simp at h; rw [h]
theorem cmpS_eq {a b : ByteArray} : cmpS a b = 0 ↔ a = b := ⟨fun h => ba_ext ((cmpB_eq _ _).1 h), fun h => by subst h; exact (cmpB_eq _ _).2 rfl⟩
theorem ltS_eq (a b : ByteArray) : ltS a b = decide (cmpS a b < 0) := by
  rw [ltS, toList_data, toList_data]; exact cmpB_lt _ _
theorem cmpS_anti (a b : ByteArray) : cmpS b a = - cmpS a b := cmpB_anti _ _
theorem cmpS_trans {a b c : ByteArray} (h1 : cmpS a b < 0) (h2 : cmpS b c < 0) : cmpS a c < 0 := cmpB_trans _ _ _ h1 h2
theorem cmpS_dom (a b : ByteArray) : cmpS a b = -1 ∨ cmpS a b = 0 ∨ cmpS a b = 1 := cmpB_dom _ _
end Go.Proofs.Ytnafhnnhhdmnfaa
