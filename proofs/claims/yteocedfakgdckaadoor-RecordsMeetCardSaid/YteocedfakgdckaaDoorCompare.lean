/- Comparing: strings, numbers, the first of some that is not zero. -/
import Derived.Test.YteocedfakgdckaaDoorCodes
import Derived.Lib.Strings
import Derived.Lib.Slices
import Derived.Lib.Walk
import Derived.Lib.Bytealg
import Derived.Test.YteocedfakgdckaaDoorIdent
namespace Go.Proofs.YteocedfakgdckaaDoor
set_option linter.all false
open Go.Idl
set_option maxHeartbeats 4000000
set_option maxRecDepth 100000
attribute [local go_sem] Tryd.underlying3 Tryd.underlying5 Tryd.underlying9
def cmpS (a b : ByteArray) : Int := Lib.compareBytes a.data.toList b.data.toList
def Fcmp : List V → Option V
  | [.sc (.string a), .sc (.string b)] => some (.sc (.int .i64 (cmpS a b)))
  | _ => none
theorem run96 (a b : ByteArray) (w : World) :
    Calls Tryd.prog 96 #[.string a, .string b] w fun e w' => e = .returned (.int .i64 (Lib.compareBytes a.data.toList b.data.toList)) ∧ w' = w := by
  go_enter Tryd.func96, Tryd.ntmps96
  go_wp2
  rw [run_callFunc_extern Tryd.func100 (by kernel_rfl) (by kernel_rfl) (by kernel_rfl) (e := Extern.BytealgCompare.compare) (by kernel_rfl), Lib.run_compareString]
  simp only [Result.andThen]
  rw [Oper.upon_value]
  go_wp2
  go_ret
  exact ⟨rfl, rfl⟩
theorem con96 : Contract Tryd.prog 96 Fcmp := by
  intro I w args xs r hl hr hI _ h
  unfold Fcmp at h
  split at h
  · rename_i a b
    cases h
    have hsz : args.size = 2 := hl.symm
    have h0 := (hr 0 _ args[0] rfl (by simp [hsz])).sc_eq
    have h1 := (hr 1 _ args[1] rfl (by simp [hsz])).sc_eq
    have ha : args = #[.string a, .string b] := by
      apply Array.ext
      · simp [hsz]
      · intro i hi _
        have : i = 0 ∨ i = 1 := by omega
        rcases this with rfl | rfl
        · simpa using h0
        · simpa using h1
    rw [ha]
    refine (run96 a b w).mono ?_
    rintro e w' ⟨rfl, rfl⟩
    exact ⟨_, rfl, Bel.refl _ _, .sc _ _⟩
  · cases h
theorem con89 {Φ : Specs} (hg : Idl.Good Tryd.prog Φ) (h56 : Φ 96 = some Fcmp) : Contract Tryd.prog 89 Fcmp := by
  refine contractL hg k89 ic89 (fun xs r h => ?_) fun C xs r h => ?_
  · unfold Fcmp at h; split at h <;> simp_all
  · unfold Fcmp at h
    split at h
    · rename_i a b
      cases h
      simp +contextual only [go_sem, ↓reduceIte, Nat.reduceEqDiff, Nat.reduceAdd, Nat.reduceLeDiff, Nat.reduceLT, reduceCtorEq, c89, k89, h56, Fcmp]
    · cases h
def cmpI (a b : Int) : Int := if a < b then -1 else if b < a then 1 else 0
def firstNZ : List Int → Int
  | [] => 0
  | a :: l => if a ≠ 0 then a else firstNZ l
theorem con88 {Φ : Specs} (hg : Idl.Good Tryd.prog Φ) : Contract Tryd.prog 88 (FT fun (t : List Int × Unit) => if t.1.length ≤ 1000000 then some (firstNZ t.1) else none) := by
  refine conT hg k88 ic88 (by decide) fun C t r h => ?_
  obtain ⟨l, u⟩ := t
  dsimp only at h
  split at h
  · rename_i hl
    cases h
    simp +contextual only [go_sem, ↓reduceIte, Nat.reduceEqDiff, Nat.reduceAdd, Nat.reduceLeDiff, Nat.reduceLT, reduceCtorEq, c88, k88]
    refine TriI.loopL hg k88 l (fun i (_ : Unit) => ⟨slotsL [(3, .sc (.int .i64 0)), (6, Cod.enc l), (7, .sc (.int .i64 l.length)), (8, .sc (.int .i64 i))], objsL [], 0⟩) (fun xs _ => firstNZ xs = firstNZ l) () (.back rfl ?_) rfl ?_ ?_
    · simp +contextual only [go_sem, ↓reduceIte, Nat.reduceEqDiff, Nat.reduceAdd, Nat.reduceLeDiff, Nat.reduceLT, reduceCtorEq, List.length_map]
      rfl
    · intro _ hinv
      simp +contextual only [go_sem, ↓reduceIte, Nat.reduceEqDiff, Nat.reduceAdd, Nat.reduceLeDiff, Nat.reduceLT, reduceCtorEq, k88, Int.lt_irrefl, decide_false]
      rw [← hinv]; rfl
    · intro i _ x xs hd hlt hx hinv
      have hw := wrap_nat hlt (by omega)
      simp +contextual only [go_sem, ↓reduceIte, Nat.reduceEqDiff, Nat.reduceAdd, Nat.reduceLeDiff, Nat.reduceLT, reduceCtorEq, k88, lt_dec hlt, hx, List.getElem?_map, Option.map_some, Int.natCast_nonneg, Int.toNat_natCast]
      refine ⟨fun h => by rw [← hinv]; simp_all [firstNZ], fun h => ⟨(), ?_, .back rfl ?_⟩⟩
      · dsimp only; rw [← hinv]; simp_all [firstNZ]
      · simp +contextual only [go_sem, ↓reduceIte, Nat.reduceEqDiff, Nat.reduceAdd, Nat.reduceLeDiff, Nat.reduceLT, reduceCtorEq, hw]
  · cases h
theorem cmpB_eq : ∀ (a b : List UInt8), Lib.compareBytes a b = 0 ↔ a = b
  | [], [] => by simp [Lib.compareBytes]
  | [], _ :: _ => by simp [Lib.compareBytes]
  | _ :: _, [] => by simp [Lib.compareBytes]
  | x :: a, y :: b => by
    rw [Lib.compareBytes]
    have ih := cmpB_eq a b
    split
    · rename_i h; constructor
      · intro h'; omega
      · intro h'; cases h'; exact absurd h (UInt8.lt_irrefl _)
    · split
      · rename_i h; constructor
        · intro h'; omega
        · intro h'; cases h'; exact absurd h (UInt8.lt_irrefl _)
      · rename_i h1 h2
        have : x = y := UInt8.le_antisymm (UInt8.not_lt.1 h2) (UInt8.not_lt.1 h1)
        rw [ih, this]; simp
theorem cmpB_anti : ∀ (a b : List UInt8), Lib.compareBytes b a = - Lib.compareBytes a b
  | [], [] => by simp [Lib.compareBytes]
  | [], _ :: _ => by simp [Lib.compareBytes]
  | _ :: _, [] => by simp [Lib.compareBytes]
  | x :: a, y :: b => by
    rw [Lib.compareBytes, Lib.compareBytes]
    have ih := cmpB_anti a b
    by_cases h1 : x < y
    · have h2 : ¬ y < x := fun h => UInt8.lt_irrefl _ (UInt8.lt_trans h h1)
      simp [h1, h2]
    · by_cases h2 : y < x
      · simp [h1, h2]
      · simp [h1, h2, ih]
theorem cmpB_trans : ∀ (a b c : List UInt8), Lib.compareBytes a b < 0 → Lib.compareBytes b c < 0 → Lib.compareBytes a c < 0
  | [], [], c, h1, _ => by simp [Lib.compareBytes] at h1
  | [], _ :: _, [], _, h2 => by simp [Lib.compareBytes] at h2
  | [], _ :: _, _ :: _, _, _ => by simp [Lib.compareBytes]
  | _ :: _, [], c, h1, _ => by simp [Lib.compareBytes] at h1
  | _ :: _, _ :: _, [], _, h2 => by simp [Lib.compareBytes] at h2
  | x :: a, y :: b, z :: c, h1, h2 => by
    rw [Lib.compareBytes] at h1 h2 ⊢
    have ih := cmpB_trans a b c
    by_cases p1 : x < y
    · by_cases p2 : y < z
      · simp [UInt8.lt_trans p1 p2]
      · by_cases p3 : z < y
        · simp [p2, p3] at h2
        · have : y = z := UInt8.le_antisymm (UInt8.not_lt.1 p3) (UInt8.not_lt.1 p2)
          subst this; simp [p1]
    · by_cases p2 : y < x
      · simp [p1, p2] at h1
      · have : x = y := UInt8.le_antisymm (UInt8.not_lt.1 p2) (UInt8.not_lt.1 p1)
        subst this
        simp [p1] at h1
        by_cases p3 : x < z
        · simp [p3]
        · by_cases p4 : z < x
          · simp [p3, p4] at h2
          · simp [p3, p4] at h2 ⊢
            exact ih h1 h2
theorem ba_ext {a b : ByteArray} (h : a.data.toList = b.data.toList) : a = b := by
  cases a with | mk x => cases b with | mk y => simp at h; rw [h]
theorem cmpS_eq {a b : ByteArray} : cmpS a b = 0 ↔ a = b := ⟨fun h => ba_ext ((cmpB_eq _ _).1 h), fun h => by subst h; exact (cmpB_eq _ _).2 rfl⟩
theorem cmpS_anti (a b : ByteArray) : cmpS b a = - cmpS a b := cmpB_anti _ _
theorem cmpS_trans {a b c : ByteArray} (h1 : cmpS a b < 0) (h2 : cmpS b c < 0) : cmpS a c < 0 := cmpB_trans _ _ _ h1 h2
end Go.Proofs.YteocedfakgdckaaDoor
namespace Go.Proofs.YteocedfakgdckaaDoor
set_option linter.all false
open Go.Idl
set_option maxHeartbeats 4000000
set_option maxRecDepth 100000
attribute [local go_sem] Tryd.underlying3 Tryd.underlying5 Tryd.underlying9
abbrev SOr : List V → Option V := FT fun (t : List Int × Unit) => if t.1.length ≤ 1000000 then some (firstNZ t.1) else none
theorem agKey : agOf Tryd.prog 120 = some (some 3) := by kernel_rfl
attribute [local go_sem] agKey
def keyE (e : EvD) : KeyD := ⟨e.station, e.txn, e.seq⟩
def cmpT (a b : KeyD) : Int := firstNZ [cmpS a.station b.station, cmpS a.txn b.txn]
def cmpK (a b : KeyD) : Int := firstNZ [cmpT a b, cmpI a.seq b.seq]
abbrev SKey : List V → Option V := FT fun (t : EvD × Unit) => some (keyE t.1)
abbrev SCmpT : List V → Option V := FT fun (t : KeyD × KeyD × Unit) => some (cmpT t.1 t.2.1)
theorem con59 {Φ : Specs} (hg : Idl.Good Tryd.prog Φ) : Contract Tryd.prog 59 SKey := by
  refine conT hg k59 ic59 (by decide) fun C t r h => ?_
  obtain ⟨e, u⟩ := t
  cases h
  simp +contextual only [go_sem, ↓reduceIte, Nat.reduceEqDiff, Nat.reduceAdd, Nat.reduceLeDiff, Nat.reduceLT, reduceCtorEq, c59, k59]
  rfl
theorem con80 {Φ : Specs} (hg : Idl.Good Tryd.prog Φ) (h89 : Φ 89 = some Fcmp) (h88 : Φ 88 = some SOr) : Contract Tryd.prog 80 SCmpT := by
  refine conT hg k80 ic80 (by decide) fun C t r h => ?_
  obtain ⟨a, b, u⟩ := t
  cases h
  simp +contextual only [go_sem, ↓reduceIte, Nat.reduceEqDiff, Nat.reduceAdd, Nat.reduceLeDiff, Nat.reduceLT, reduceCtorEq, c80, k80, h89, Fcmp, h88, List.length_cons, List.length_nil]
  exact ⟨rfl, rfl⟩
theorem cmpT_eq {a b : KeyD} : cmpT a b = 0 ↔ a.station = b.station ∧ a.txn = b.txn := by
  unfold cmpT
  by_cases h : cmpS a.station b.station = 0
  · have h' := cmpS_eq.1 h
    simp only [firstNZ, h, ne_eq, not_true, if_false, h', true_and]
    rw [← cmpS_eq]
    split <;> simp_all
  · have h' : ¬ a.station = b.station := fun e => h (cmpS_eq.2 e)
    simp [firstNZ, h, h']
def bef (a b : EvD) : Bool := decide (cmpK (keyE a) (keyE b) < 0)
def one (a b : EvD) : Bool := decide (a.station = b.station) && decide (a.txn = b.txn)
def contra (a b : EvD) : Bool := bif decide (a.seq < b.seq) then a.kind == 3 || decide (a.time > b.time) else bif decide (b.seq < a.seq) then b.kind == 3 || decide (b.time > a.time) else false
abbrev SContra : List V → Option V := FT fun (t : EvD × EvD × Unit) => some (contra t.1 t.2.1)
theorem con60 {Φ : Specs} (hg : Idl.Good Tryd.prog Φ) : Contract Tryd.prog 60 SContra := by
  refine conT hg k60 ic60 (by decide) fun C t r h => ?_
  obtain ⟨a, b, u⟩ := t
  cases h
  simp +contextual only [go_sem, ↓reduceIte, Nat.reduceEqDiff, Nat.reduceAdd, Nat.reduceLeDiff, Nat.reduceLT, reduceCtorEq, c60, k60]
  (repeat' (first | apply And.intro | intro _)) <;> simp only [contra, *, cond_true, cond_false]
theorem one_cmp (a b : EvD) : one a b = (cmpT (keyE a) (keyE b) == 0) := by
  rw [Bool.eq_iff_iff]; simp [one, cmpT_eq, keyE]
def badP (p : Option EvD) (e : EvD) : Bool := match p with
  | some q => !bef q e || (one q e && contra q e)
  | none => false
def colL (p : Option EvD) : List EvD → Int
  | [] => 0
  | e :: l => bif evS e != 0 then evS e else bif badP p e then 1 else colL (some e) l
def colS (l : List EvD) : Int := bif decide (l.length > 4096) then 3 else colL none l
end Go.Proofs.YteocedfakgdckaaDoor
namespace Go.Proofs.YteocedfakgdckaaDoor
set_option linter.all false
open Go.Idl
theorem cmpT_def (a b : KeyD) : cmpT a b = if cmpS a.station b.station = 0 then cmpS a.txn b.txn else cmpS a.station b.station := by
  unfold cmpT
  by_cases h : cmpS a.station b.station = 0
  · simp only [firstNZ, h, ne_eq, not_true, if_false, if_true]
    split
    · rfl
    · rename_i h2; simp at h2; exact h2.symm
  · simp [firstNZ, h]
theorem cmpK_def (a b : KeyD) : cmpK a b = if cmpT a b = 0 then cmpI a.seq b.seq else cmpT a b := by
  unfold cmpK
  by_cases h : cmpT a b = 0
  · simp only [firstNZ, h, ne_eq, not_true, if_false, if_true]
    split
    · rfl
    · rename_i h2; simp at h2; exact h2.symm
  · simp [firstNZ, h]
theorem cmpT_anti (a b : KeyD) : cmpT b a = - cmpT a b := by
  rw [cmpT_def, cmpT_def, cmpS_anti a.station b.station, cmpS_anti a.txn b.txn]
  by_cases h : cmpS a.station b.station = 0
  · simp [h]
  · simp [h]
theorem cmpT_trans {a b c : KeyD} (h1 : cmpT a b < 0) (h2 : cmpT b c < 0) : cmpT a c < 0 := by
  rw [cmpT_def] at h1 h2 ⊢
  by_cases e1 : cmpS a.station b.station = 0
  · have q1 := cmpS_eq.1 e1
    rw [if_pos e1] at h1
    rw [q1]
    by_cases e2 : cmpS b.station c.station = 0
    · rw [if_pos e2] at h2 ⊢; exact cmpS_trans h1 h2
    · rw [if_neg e2] at h2 ⊢; exact h2
  · rw [if_neg e1] at h1
    by_cases e2 : cmpS b.station c.station = 0
    · have q2 := cmpS_eq.1 e2
      rw [← q2, if_neg e1]; exact h1
    · rw [if_neg e2] at h2
      have := cmpS_trans h1 h2
      rw [if_neg (by omega)]; exact this
theorem cmpT_congr {a b : KeyD} (h : cmpT a b = 0) (c : KeyD) : cmpT a c = cmpT b c := by
  obtain ⟨e1, e2⟩ := cmpT_eq.1 h
  rw [cmpT_def, cmpT_def, e1, e2]
theorem cmpT_congr' {b c : KeyD} (h : cmpT b c = 0) (a : KeyD) : cmpT a b = cmpT a c := by
  obtain ⟨e1, e2⟩ := cmpT_eq.1 h
  rw [cmpT_def, cmpT_def, e1, e2]
theorem cmpT_le_lt {a b c : KeyD} (h1 : cmpT a b ≤ 0) (h2 : cmpT b c < 0) : cmpT a c < 0 := by
  by_cases h : cmpT a b = 0
  · rw [cmpT_congr h]; exact h2
  · exact cmpT_trans (by omega) h2
theorem cmpT_le_le {a b c : KeyD} (h1 : cmpT a b ≤ 0) (h2 : cmpT b c ≤ 0) : cmpT a c ≤ 0 := by
  by_cases h : cmpT b c = 0
  · rw [← cmpT_congr' h]; exact h1
  · exact Int.le_of_lt (cmpT_le_lt h1 (by omega))
theorem cmpI_lt {a b : Int} : cmpI a b < 0 ↔ a < b := by unfold cmpI; split <;> (try split) <;> omega
theorem bef_iff (a b : EvD) : bef a b = true ↔ cmpT (keyE a) (keyE b) < 0 ∨ (cmpT (keyE a) (keyE b) = 0 ∧ a.seq < b.seq) := by
  simp only [bef, decide_eq_true_eq, cmpK_def]
  by_cases h : cmpT (keyE a) (keyE b) = 0
  · rw [if_pos h, cmpI_lt, h]; simp [keyE]
  · rw [if_neg h]; simp [h]
theorem bef_trans {a b c : EvD} (h1 : bef a b = true) (h2 : bef b c = true) : bef a c = true := by
  rw [bef_iff] at *
  rcases h1 with h1 | ⟨h1, h1'⟩
  · rcases h2 with h2 | ⟨h2, h2'⟩
    · exact .inl (cmpT_trans h1 h2)
    · rw [← cmpT_congr' h2]; exact .inl h1
  · rcases h2 with h2 | ⟨h2, h2'⟩
    · rw [cmpT_congr h1]; exact .inl h2
    · rw [cmpT_congr h1]; exact .inr ⟨h2, by omega⟩
theorem bef_irrefl (a : EvD) : bef a a = false := by
  rw [Bool.eq_false_iff]
  intro h
  rw [bef_iff] at h
  have : cmpT (keyE a) (keyE a) = 0 := cmpT_eq.2 ⟨rfl, rfl⟩
  omega
theorem bef_tri (a b : EvD) : bef a b = true ∨ bef b a = true ∨ keyE a = keyE b := by
  rw [bef_iff, bef_iff, cmpT_anti (keyE a) (keyE b)]
  by_cases h : cmpT (keyE a) (keyE b) = 0
  · obtain ⟨e1, e2⟩ := cmpT_eq.1 h
    simp only [keyE] at e1 e2
    by_cases h2 : a.seq < b.seq
    · exact .inl (.inr ⟨h, h2⟩)
    · by_cases h3 : b.seq < a.seq
      · exact .inr (.inl (.inr ⟨by omega, h3⟩))
      · refine .inr (.inr ?_)
        simp only [keyE, KeyD.mk.injEq]
        exact ⟨e1, e2, by omega⟩
  · by_cases h2 : cmpT (keyE a) (keyE b) < 0
    · exact .inl (.inl h2)
    · exact .inr (.inl (.inl (by omega)))
theorem one_iff (a b : EvD) : one a b = true ↔ cmpT (keyE a) (keyE b) = 0 := by rw [one_cmp]; simp
theorem contra_lt {a b : EvD} (h : a.seq < b.seq) : contra a b = false ↔ a.kind ≠ 3 ∧ a.time ≤ b.time := by
  have h1 : decide (a.seq < b.seq) = true := by simpa using h
  simp only [contra, h1, cond_true]
  simp
theorem contra_comm (a b : EvD) : contra a b = contra b a := by
  unfold contra
  by_cases h1 : a.seq < b.seq
  · have h2 : ¬ b.seq < a.seq := by omega
    simp [h1, h2]
  · by_cases h2 : b.seq < a.seq
    · simp [h1, h2]
    · simp [h1, h2]
theorem one_comm (a b : EvD) : one a b = one b a := by
  rw [Bool.eq_iff_iff, one_iff, one_iff, cmpT_anti (keyE a) (keyE b)]; omega
theorem contra_trans {a b c : EvD} (h1 : bef a b = true) (h2 : bef b c = true) (h : one a c = true) (k1 : one a b = true → contra a b = false) (k2 : one b c = true → contra b c = false) : contra a c = false := by
  rw [one_iff] at *
  rw [bef_iff] at h1 h2
  have e1 : cmpT (keyE a) (keyE b) = 0 := by
    rcases h1 with h1 | h1
    · exfalso
      have : cmpT (keyE b) (keyE c) ≤ 0 := by rcases h2 with h2 | h2 <;> omega
      have h3 := cmpT_anti (keyE a) (keyE c)
      have h4 : cmpT (keyE c) (keyE b) < 0 := by rw [← cmpT_congr h]; exact h1
      have h5 := cmpT_anti (keyE c) (keyE b)
      omega
    · exact h1.1
  have e2 : cmpT (keyE b) (keyE c) = 0 := by rw [← cmpT_congr e1]; exact h
  have s1 : a.seq < b.seq := by rcases h1 with h1 | h1; omega; exact h1.2
  have s2 : b.seq < c.seq := by rcases h2 with h2 | h2; omega; exact h2.2
  have q1 := (contra_lt s1).1 (k1 e1)
  have q2 := (contra_lt s2).1 (k2 e2)
  exact (contra_lt (by omega)).2 ⟨q1.1, by omega⟩
theorem badP_false {q e : EvD} : badP (some q) e = false ↔ bef q e = true ∧ (one q e = true → contra q e = false) := by
  simp only [badP, Bool.or_eq_false_iff, Bool.not_eq_false', Bool.and_eq_false_iff]
  constructor
  · rintro ⟨h1, h2⟩
    refine ⟨h1, fun h => ?_⟩
    rcases h2 with h2 | h2
    · rw [h2] at h; cases h
    · exact h2
  · rintro ⟨h1, h2⟩
    refine ⟨h1, ?_⟩
    cases h : one q e with
    | false => exact .inl rfl
    | true => exact .inr (h2 h)
def good2 (a b : EvD) : Prop := bef a b = true ∧ (one a b = true → contra a b = false)
theorem good2_trans {a b c : EvD} (h1 : good2 a b) (h2 : good2 b c) : good2 a c := ⟨bef_trans h1.1 h2.1, fun h => contra_trans h1.1 h2.1 h h1.2 h2.2⟩
theorem colL_ok : ∀ (p : Option EvD) (l : List EvD), colL p l = 0 ↔ (∀ e ∈ l, evS e = 0) ∧ l.Pairwise good2 ∧ (∀ q, p = some q → ∀ e ∈ l, good2 q e)
  | p, [] => by simp [colL]
  | p, e :: l => by
    rw [colL]
    by_cases h1 : evS e = 0
    · rw [show (evS e != 0) = false by simp [h1]]
      simp only [cond_false]
      have ih := colL_ok (some e) l
      cases hb : badP p e with
      | true =>
        simp only [cond_true, List.mem_cons, forall_eq_or_imp, List.pairwise_cons]
        constructor
        · intro h; cases h
        · rintro ⟨_, _, h⟩
          exfalso
          cases p with
          | none => simp [badP] at hb
          | some q =>
            have := badP_false.2 (h q rfl).1
            rw [hb] at this; cases this
      | false =>
        simp only [cond_false, ih, List.mem_cons, forall_eq_or_imp, List.pairwise_cons]
        constructor
        · rintro ⟨g1, g2, g3⟩
          refine ⟨⟨h1, g1⟩, ⟨g3 e rfl, g2⟩, fun q hq => ?_⟩
          subst hq
          have hqe := badP_false.1 hb
          exact ⟨hqe, fun x hx => good2_trans hqe (g3 e rfl x hx)⟩
        · rintro ⟨⟨_, g1⟩, ⟨g2, g3⟩, _⟩
          exact ⟨g1, g3, fun q hq x hx => by cases hq; exact g2 x hx⟩
    · rw [show (evS e != 0) = true by simp [h1]]
      simp only [cond_true, List.mem_cons, forall_eq_or_imp]
      constructor
      · intro h; exact absurd h h1
      · rintro ⟨⟨h, _⟩, _⟩; exact absurd h h1
structure Coll (l : List EvD) : Prop where
  ok : ∀ e ∈ l, evS e = 0
  ord : l.Pairwise good2
  len : l.length ≤ 4096
theorem colS_ok {l : List EvD} : colS l = 0 ↔ Coll l := by
  unfold colS
  by_cases h : l.length > 4096
  · simp only [h, decide_true, cond_true]
    constructor
    · intro h; cases h
    · rintro ⟨_, _, h'⟩; omega
  · simp only [h, decide_false, cond_false]
    rw [colL_ok]
    constructor
    · rintro ⟨h1, h2, _⟩; exact ⟨h1, h2, by omega⟩
    · rintro ⟨h1, h2, _⟩; exact ⟨h1, h2, fun q hq => by cases hq⟩
theorem ev_rds {e : EvD} (h : evS e = 0) : e.rds.length ≤ 16 := by
  unfold evS at h
  cases h1 : (!okName e.station || !okName e.txn)
  · cases h2 : (!numsS e)
    · cases h3 : (kindS e != 0)
      · simp only [h1, h2, h3, cond_false] at h
        unfold rdsS at h
        by_cases h4 : e.rds.length > 16
        · simp [h4] at h
        · omega
      · simp only [h1, h2, h3, cond_false, cond_true] at h
        rw [h] at h3
        simp at h3
    · simp [h1, h2] at h
  · simp [h1] at h
end Go.Proofs.YteocedfakgdckaaDoor
namespace Go.Proofs.YteocedfakgdckaaDoor
set_option linter.all false
open Go.Idl
set_option maxHeartbeats 4000000
set_option maxRecDepth 100000
attribute [local go_sem] Tryd.underlying3 Tryd.underlying148 Tryd.underlying9 agKey
theorem ct78 {Φ : Specs} (hg : Idl.Good Tryd.prog Φ) {C : Ctx} {n : Nat} {f : FuncId} {xs ys : List V} {s : SF} {K : V → SF → Prop} (p : Nat → Bool) (hn : n ≤ 1000000) (r : Nat) (hr : r ≤ n) (h1 : ∀ i, i < r → p i = false) (h2 : ∀ i, r ≤ i → i < n → p i = true)
    (hc : ∀ (C' : Ctx) (s' : SF) (i : Nat), s'.H = s.H → i < n → CallT Tryd.prog C' f (xs ++ [.sc (.int .i64 (i : Int))] ++ ys) s' fun v s'' => v = .sc (.bool (p i)) ∧ s''.H = s.H)
    (hk : ∀ s', s'.H = s.H → K (.sc (.int .i64 (r : Int))) s') : CallT Tryd.prog C 78 [.sc (.int .i64 (n : Int)), .fn (.func f) xs ys] s K := by
  obtain ⟨τ, H, m⟩ := s
  refine CallT.of_walk hg k78 ic78 (by simp) fun C' hlow => ?_
  simp +contextual only [go_sem, ↓reduceIte, Nat.reduceEqDiff, Nat.reduceAdd, Nat.reduceLeDiff, Nat.reduceLT, reduceCtorEq, c78, k78]
  refine TriI.loopA hg k78 (fun q : Nat × Nat => ⟨slotsL [(1, .fn (.func f) xs ys), (5, .sc (.int .i64 (q.1 : Int))), (6, .sc (.int .i64 (q.2 : Int)))], H, m⟩) (fun q => q.1 ≤ r ∧ r ≤ q.2 ∧ q.2 ≤ n) (fun q => q.2 - q.1) (0, n) (LeF.slots ?_) ⟨by simp, hr, Nat.le_refl n⟩ ?_
  · simp +contextual only [go_sem, ↓reduceIte, Nat.reduceEqDiff, Nat.reduceAdd, Nat.reduceLeDiff, Nat.reduceLT, reduceCtorEq]
    rfl
  · rintro ⟨i, j⟩ ⟨q1, q2, q3⟩
    dsimp only at q1 q2 q3 ⊢
    by_cases hij : i < j
    · have hw : IntKind.i64.wrap ((i : Int) + (j : Int)) = ((i + j : Nat) : Int) := by rw [IntKind.wrap_i64]; omega
      have hu : IntKind.u64.wrap ((i + j : Nat) : Int) = ((i + j : Nat) : Int) := by simp [IntKind.wrap, IntKind.bits, IntKind.signed]; omega
      have hsh : (((i + j : Nat) : Int)).fdiv (2 ^ (min (Int.toNat 1) 64)) = (((i + j) / 2 : Nat) : Int) := by
        rw [show min (Int.toNat 1) 64 = 1 by decide]
        rw [Int.fdiv_eq_ediv_of_nonneg _ (by decide)]
        omega
      have hb : IntKind.i64.wrap (((i + j) / 2 : Nat) : Int) = (((i + j) / 2 : Nat) : Int) := by rw [IntKind.wrap_i64]; omega
      simp +contextual only [go_sem, ↓reduceIte, Nat.reduceEqDiff, Nat.reduceAdd, Nat.reduceLeDiff, Nat.reduceLT, reduceCtorEq, k78, lt_dec hij, hw, hu, hsh, hb, Int.reduceLT, not_false_eq_true]
      refine CallT.mono (hc C' ⟨_, H, m⟩ ((i + j) / 2) (by rfl) (by omega)) ?_
      rintro v ⟨τ', H', m'⟩ ⟨rfl, hH⟩
      dsimp only at hH
      subst hH
      have hw2 : IntKind.i64.wrap ((((i + j) / 2 : Nat) : Int) + 1) = (((i + j) / 2 + 1 : Nat) : Int) := by rw [IntKind.wrap_i64]; omega
      simp +contextual only [go_sem, ↓reduceIte, Nat.reduceEqDiff, Nat.reduceAdd, Nat.reduceLeDiff, Nat.reduceLT, reduceCtorEq, k78, hw2]
      refine ⟨fun hp => ⟨((i + j) / 2 + 1, j), by dsimp only; omega, ⟨?_, q2, q3⟩, LeF.slots ?_⟩, fun hp => ⟨(i, (i + j) / 2), by dsimp only; omega, ⟨q1, ?_, by dsimp only; omega⟩, LeF.slots ?_⟩⟩
      · dsimp only
        have : ¬ r ≤ (i + j) / 2 := fun h => by rw [h2 _ h (by omega)] at hp; cases hp
        omega
      · simp +contextual only [go_sem, ↓reduceIte, Nat.reduceEqDiff, Nat.reduceAdd, Nat.reduceLeDiff, Nat.reduceLT, reduceCtorEq]
      · dsimp only
        have : ¬ (i + j) / 2 < r := fun h => by rw [h1 _ h] at hp; cases hp
        omega
      · simp +contextual only [go_sem, ↓reduceIte, Nat.reduceEqDiff, Nat.reduceAdd, Nat.reduceLeDiff, Nat.reduceLT, reduceCtorEq]
    · have e : i = r := by omega
      have hd : decide ((i : Int) < (j : Int)) = false := by simp; omega
      simp +contextual only [go_sem, ↓reduceIte, Nat.reduceEqDiff, Nat.reduceAdd, Nat.reduceLeDiff, Nat.reduceLT, reduceCtorEq, k78, hd]
      subst e
      exact hk _ rfl
def lessK (k : KeyD) (e : EvD) : Bool := decide (cmpT (keyE e) k < 0)
def sameKb (k : KeyD) (e : EvD) : Bool := cmpT (keyE e) k == 0
def fromB (l : List EvD) (k : KeyD) : Nat := (l.takeWhile (lessK k)).length
def toB (l : List EvD) (k : KeyD) : Nat := fromB l k + ((l.drop (fromB l k)).takeWhile (sameKb k)).length
def kAt (x y : ByteArray) : KeyD := ⟨x, y, 0⟩
abbrev SBounds : List V → Option V := FT fun (t : List EvD × ByteArray × ByteArray × Unit) => if colS t.1 = 0 then some (((fromB t.1 (kAt t.2.1 t.2.2.1) : Nat) : Int), ((toB t.1 (kAt t.2.1 t.2.2.1) : Nat) : Int)) else none
theorem takeW {α : Type} (p : α → Bool) : ∀ (l : List α), (l.takeWhile p).length ≤ l.length ∧ (∀ i, i < (l.takeWhile p).length → ∃ a, l[i]? = some a ∧ p a = true) ∧ (∀ a, l[(l.takeWhile p).length]? = some a → p a = false)
  | [] => by simp
  | x :: l => by
    obtain ⟨h1, h2, h3⟩ := takeW p l
    cases hp : p x with
    | true =>
      rw [List.takeWhile_cons_of_pos hp]
      refine ⟨by simpa using h1, fun i hi => ?_, fun a ha => h3 a (by simpa using ha)⟩
      cases i with
      | zero => exact ⟨x, rfl, hp⟩
      | succ i => exact h2 i (by simpa using hi)
    | false =>
      rw [List.takeWhile_cons_of_neg (by simp [hp])]
      refine ⟨by simp, fun i hi => by simp at hi, fun a ha => ?_⟩
      simp at ha; subst ha; exact hp
theorem Coll.le {l : List EvD} (hl : Coll l) {i j : Nat} (hij : i ≤ j) {a b : EvD} (ha : l[i]? = some a) (hb : l[j]? = some b) : cmpT (keyE a) (keyE b) ≤ 0 := by
  by_cases e : i = j
  · subst e; rw [ha] at hb; cases hb; rw [cmpT_eq.2 ⟨rfl, rfl⟩]; omega
  · obtain ⟨h1, h2⟩ := List.getElem?_eq_some_iff.1 ha
    obtain ⟨h3, h4⟩ := List.getElem?_eq_some_iff.1 hb
    have := List.pairwise_iff_getElem.1 hl.ord i j h1 h3 (by omega)
    rw [h2, h4] at this
    have := (bef_iff a b).1 this.1
    omega
def pAt (l : List EvD) (k : KeyD) (i : Nat) : Bool := match l[i]? with
  | some e => decide (cmpT (keyE e) k ≥ 0)
  | none => false
theorem pAt_lo {l : List EvD} (k : KeyD) {i : Nat} (hi : i < fromB l k) : pAt l k i = false := by
  obtain ⟨a, ha, hp⟩ := (takeW (lessK k) l).2.1 i hi
  simp only [pAt, ha]
  simp [lessK] at hp ⊢; exact hp
theorem pAt_hi {l : List EvD} (hl : Coll l) (k : KeyD) {i : Nat} (hi : fromB l k ≤ i) (hn : i < l.length) : pAt l k i = true := by
  have hb : l[i]? = some l[i] := by simp
  have hf : fromB l k < l.length := by omega
  have ha : l[fromB l k]? = some l[fromB l k] := by simp
  have h1 := (takeW (lessK k) l).2.2 _ ha
  have h2 := hl.le hi ha hb
  simp only [pAt, hb]
  simp only [lessK, decide_eq_false_iff_not] at h1
  simp only [ge_iff_le, decide_eq_true_eq]
  apply Int.not_lt.1
  intro h3
  exact h1 (cmpT_le_lt h2 h3)
theorem con57 {Φ : Specs} (hg : Idl.Good Tryd.prog Φ) (h78 : Φ 78 = none) (h79 : Φ 79 = none) (h59 : Φ 59 = some SKey) (h80 : Φ 80 = some SCmpT) : Contract Tryd.prog 57 SBounds := by
  refine conT hg k57 ic57 (by decide) fun C t r h => ?_
  obtain ⟨l, x, y, u⟩ := t
  dsimp only at h
  split at h
  · rename_i hl
    have hl := colS_ok.1 hl
    cases h
    simp +contextual only [go_sem, ↓reduceIte, Nat.reduceEqDiff, Nat.reduceAdd, Nat.reduceLeDiff, Nat.reduceLT, reduceCtorEq, c57, k57, List.length_map, h78]
    refine ct78 hg (pAt l (kAt x y)) (by have := hl.len; omega) (fromB l (kAt x y)) (takeW _ l).1 (fun i hi => pAt_lo _ hi) (fun i h1 h2 => pAt_hi hl _ h1 h2) (fun C' s' i hs hi => ?_) ?_
    · obtain ⟨τ', H', n'⟩ := s'
      dsimp only at hs
      subst hs
      refine CallT.of_walk hg k79 ic79 (by simp) fun C2 hlow => ?_
      have hx : l[i]? = some l[i] := by simp
      simp +contextual only [go_sem, ↓reduceIte, Nat.reduceEqDiff, Nat.reduceAdd, Nat.reduceLeDiff, Nat.reduceLT, reduceCtorEq, c79, k79, h59, h80, hx, List.getElem?_map, Option.map_some, Int.natCast_nonneg, Int.toNat_natCast]
      refine ⟨rfl, ?_⟩
      unfold pAt
      rw [hx]
      rfl
    · rintro ⟨τ', H', n'⟩ hs
      dsimp only at hs
      subst hs
      have hlen := hl.len
      refine TriI.loopA hg k57 (fun i : Nat => ⟨slotsL [(3, .ref 0 0 0), (8, .ref 1 0 0), (9, .sc (.int .i64 (fromB l (kAt x y) : Nat))), (10, .sc (.int .i64 (i : Nat)))], objsL [.live 1 [Cod.enc l] true, .live 3 [Cod.enc (kAt x y)] true], 2⟩)
        (fun i => i ≤ l.length ∧ toB l (kAt x y) = i + ((l.drop i).takeWhile (sameKb (kAt x y))).length) (fun i => l.length - i) (fromB l (kAt x y)) (.back rfl ?_) ⟨(takeW _ l).1, rfl⟩ ?_
      · simp +contextual only [go_sem, ↓reduceIte, Nat.reduceEqDiff, Nat.reduceAdd, Nat.reduceLeDiff, Nat.reduceLT, reduceCtorEq]
        rfl
      · rintro i ⟨h1, h2⟩
        by_cases hi : i < l.length
        · have hx : l[i]? = some l[i] := by simp
          have hw := wrap_nat hi (by omega)
          simp +contextual only [go_sem, ↓reduceIte, Nat.reduceEqDiff, Nat.reduceAdd, Nat.reduceLeDiff, Nat.reduceLT, reduceCtorEq, k57, h59, h80, lt_dec hi, hx, List.length_map, List.getElem?_map, Option.map_some, Int.natCast_nonneg, Int.toNat_natCast, hw]
          have hdr : l.drop i = l[i] :: l.drop (i + 1) := List.drop_eq_getElem_cons hi
          rw [hdr] at h2
          refine ⟨rfl, fun hb => ⟨i + 1, by dsimp only; omega, ⟨by omega, ?_⟩, .back rfl ?_⟩, fun hb => ?_⟩
          · rw [List.takeWhile_cons_of_pos (show sameKb (kAt x y) l[i] = true from hb)] at h2
            rw [h2, List.length_cons]; omega
          · simp +contextual only [go_sem, ↓reduceIte, Nat.reduceEqDiff, Nat.reduceAdd, Nat.reduceLeDiff, Nat.reduceLT, reduceCtorEq]
          · rw [List.takeWhile_cons_of_neg (by simpa [sameKb] using hb)] at h2
            rw [h2]; simp
        · have hd : decide ((i : Int) < (l.length : Int)) = false := by simp; omega
          simp +contextual only [go_sem, ↓reduceIte, Nat.reduceEqDiff, Nat.reduceAdd, Nat.reduceLeDiff, Nat.reduceLT, reduceCtorEq, k57, hd, List.length_map]
          rw [List.drop_eq_nil_of_le (by omega)] at h2
          rw [h2]
          exact ⟨rfl, rfl⟩
  · cases h
end Go.Proofs.YteocedfakgdckaaDoor
