/- The part of a collection that a transaction has: a search that is walked into. -/
import Derived.Test.YtnafhnnhhdmnfaaOrder36
namespace Go.Proofs.Ytnafhnnhhdmnfaa
set_option linter.all false
open Go.Idl
set_option maxHeartbeats 4000000
set_option maxRecDepth 100000
attribute [local go_sem] Try.underlying3 Try.underlying75 Try.underlying9 agKey

/-- A search by halves: the least index at which p holds. -/
theorem ct50 {Φ : Specs} (hg : Idl.Good Try.prog Φ) {C : Ctx} {n : Nat} {f : FuncId} {xs ys : List V} {s : SF} {K : V → SF → Prop} (p : Nat → Bool) (hn : n ≤ 1000000) (r : Nat) (hr : r ≤ n) (h1 : ∀ i, i < r → p i = false) (h2 : ∀ i, r ≤ i → i < n → p i = true)
    (hc : ∀ (C' : Ctx) (s' : SF) (i : Nat), s'.H = s.H → i < n → CallT Try.prog C' f (xs ++ [.sc (.int .i64 (i : Int))] ++ ys) s' fun v s'' => v = .sc (.bool (p i)) ∧ s''.H = s.H)
    (hk : ∀ s', s'.H = s.H → K (.sc (.int .i64 (r : Int))) s') : CallT Try.prog C 50 [.sc (.int .i64 (n : Int)), .fn (.func f) xs ys] s K := by
  obtain ⟨τ, H, m⟩ := s
  refine CallT.of_walk hg k50 ic50 (by simp) fun C' hlow => ?_
  simp +contextual only [go_sem, ↓reduceIte, Nat.reduceEqDiff, Nat.reduceAdd, Nat.reduceLeDiff, Nat.reduceLT, reduceCtorEq, c50, k50]
  refine TriI.loopA hg k50 (fun q : Nat × Nat => ⟨slotsL [(1, .fn (.func f) xs ys), (5, .sc (.int .i64 (q.1 : Int))), (6, .sc (.int .i64 (q.2 : Int)))], H, m⟩) (fun q => q.1 ≤ r ∧ r ≤ q.2 ∧ q.2 ≤ n) (fun q => q.2 - q.1) (0, n) (LeF.slots ?_) ⟨by simp, hr, Nat.le_refl n⟩ ?_
  · simp +contextual only [go_sem, ↓reduceIte, Nat.reduceEqDiff, Nat.reduceAdd, Nat.reduceLeDiff, Nat.reduceLT, reduceCtorEq]
    rfl
  · rintro ⟨i, j⟩ ⟨q1, q2, q3⟩
    dsimp only at q1 q2 q3 ⊢
    by_cases hij : i < j
    · have hw : IntKind.i64.wrap ((i : Int) + (j : Int)) = ((i + j : Nat) : Int) := by rw [IntKind.wrap_i64]; omega
      have hu : IntKind.u64.wrap ((i + j : Nat) : Int) = ((i + j : Nat) : Int) := by simp [IntKind.wrap, IntKind.bits, IntKind.signed]; omega
      have hsh : (((i + j : Nat) : Int)).fdiv (2 ^ (min (Int.toNat 1) 64)) = (((i + j) / 2 : Nat) : Int) := by
        rw [show min (Int.toNat 1) 64 = 1 by decide]
        rw [Int.fdiv_eq_ediv_of_nonneg _ (by decide)]
        omega
      have hb : IntKind.i64.wrap (((i + j) / 2 : Nat) : Int) = (((i + j) / 2 : Nat) : Int) := by rw [IntKind.wrap_i64]; omega
      simp +contextual only [go_sem, ↓reduceIte, Nat.reduceEqDiff, Nat.reduceAdd, Nat.reduceLeDiff, Nat.reduceLT, reduceCtorEq, k50, lt_dec hij, hw, hu, hsh, hb, Int.reduceLT, not_false_eq_true]
      refine CallT.mono (hc C' ⟨_, H, m⟩ ((i + j) / 2) (by rfl) (by omega)) ?_
      rintro v ⟨τ', H', m'⟩ ⟨rfl, hH⟩
      dsimp only at hH
      subst hH
      have hw2 : IntKind.i64.wrap ((((i + j) / 2 : Nat) : Int) + 1) = (((i + j) / 2 + 1 : Nat) : Int) := by rw [IntKind.wrap_i64]; omega
      simp +contextual only [go_sem, ↓reduceIte, Nat.reduceEqDiff, Nat.reduceAdd, Nat.reduceLeDiff, Nat.reduceLT, reduceCtorEq, k50, hw2]
      refine ⟨fun hp => ⟨((i + j) / 2 + 1, j), by dsimp only; omega, ⟨?_, q2, q3⟩, LeF.slots ?_⟩, fun hp => ⟨(i, (i + j) / 2), by dsimp only; omega, ⟨q1, ?_, by dsimp only; omega⟩, LeF.slots ?_⟩⟩
      · dsimp only
        have : ¬ r ≤ (i + j) / 2 := fun h => by rw [h2 _ h (by omega)] at hp; cases hp
        omega
      · simp +contextual only [go_sem, ↓reduceIte, Nat.reduceEqDiff, Nat.reduceAdd, Nat.reduceLeDiff, Nat.reduceLT, reduceCtorEq]
      · dsimp only
        have : ¬ (i + j) / 2 < r := fun h => by rw [h1 _ h] at hp; cases hp
        omega
      · simp +contextual only [go_sem, ↓reduceIte, Nat.reduceEqDiff, Nat.reduceAdd, Nat.reduceLeDiff, Nat.reduceLT, reduceCtorEq]
    · have e : i = r := by omega
      have hd : decide ((i : Int) < (j : Int)) = false := by simp; omega
      simp +contextual only [go_sem, ↓reduceIte, Nat.reduceEqDiff, Nat.reduceAdd, Nat.reduceLeDiff, Nat.reduceLT, reduceCtorEq, k50, hd]
      subst e
      exact hk _ rfl

def lessK (k : KeyD) (e : EvD) : Bool := decide (cmpT (keyE e) k < 0)
def sameK (k : KeyD) (e : EvD) : Bool := cmpT (keyE e) k == 0
def fromB (l : List EvD) (k : KeyD) : Nat := (l.takeWhile (lessK k)).length
def toB (l : List EvD) (k : KeyD) : Nat := fromB l k + ((l.drop (fromB l k)).takeWhile (sameK k)).length
def kAt (x y : ByteArray) : KeyD := ⟨x, y, 0⟩
abbrev SBounds : List V → Option V := FT fun (t : List EvD × ByteArray × ByteArray × Unit) => if colS t.1 = 0 then some (((fromB t.1 (kAt t.2.1 t.2.2.1) : Nat) : Int), ((toB t.1 (kAt t.2.1 t.2.2.1) : Nat) : Int)) else none

theorem takeW {α : Type} (p : α → Bool) : ∀ (l : List α), (l.takeWhile p).length ≤ l.length ∧ (∀ i, i < (l.takeWhile p).length → ∃ a, l[i]? = some a ∧ p a = true) ∧ (∀ a, l[(l.takeWhile p).length]? = some a → p a = false)
  | [] => by simp
  | x :: l => by
    obtain ⟨h1, h2, h3⟩ := takeW p l
    cases hp : p x with
    | true =>
      rw [List.takeWhile_cons_of_pos hp]
      refine ⟨by simpa using h1, fun i hi => ?_, fun a ha => h3 a (by simpa using ha)⟩
      cases i with
      | zero => exact ⟨x, rfl, hp⟩
      | succ i => exact h2 i (by simpa using hi)
    | false =>
      rw [List.takeWhile_cons_of_neg (by simp [hp])]
      refine ⟨by simp, fun i hi => by simp at hi, fun a ha => ?_⟩
      simp at ha; subst ha; exact hp
theorem Coll.le {l : List EvD} (hl : Coll l) {i j : Nat} (hij : i ≤ j) {a b : EvD} (ha : l[i]? = some a) (hb : l[j]? = some b) : cmpT (keyE a) (keyE b) ≤ 0 := by
  by_cases e : i = j
  · subst e; rw [ha] at hb; cases hb; rw [cmpT_eq.2 ⟨rfl, rfl⟩]; omega
  · obtain ⟨h1, h2⟩ := List.getElem?_eq_some_iff.1 ha
    obtain ⟨h3, h4⟩ := List.getElem?_eq_some_iff.1 hb
    have := List.pairwise_iff_getElem.1 hl.ord i j h1 h3 (by omega)
    rw [h2, h4] at this
    have := (bef_iff a b).1 this.1
    omega
def pAt (l : List EvD) (k : KeyD) (i : Nat) : Bool := match l[i]? with
  | some e => decide (cmpT (keyE e) k ≥ 0)
  | none => false
theorem pAt_lo {l : List EvD} (k : KeyD) {i : Nat} (hi : i < fromB l k) : pAt l k i = false := by
  obtain ⟨a, ha, hp⟩ := (takeW (lessK k) l).2.1 i hi
  simp only [pAt, ha]
  simp [lessK] at hp ⊢; exact hp
theorem pAt_hi {l : List EvD} (hl : Coll l) (k : KeyD) {i : Nat} (hi : fromB l k ≤ i) (hn : i < l.length) : pAt l k i = true := by
  have hb : l[i]? = some l[i] := by simp
  have hf : fromB l k < l.length := by omega
  have ha : l[fromB l k]? = some l[fromB l k] := by simp
  have h1 := (takeW (lessK k) l).2.2 _ ha
  have h2 := hl.le hi ha hb
  simp only [pAt, hb]
  simp only [lessK, decide_eq_false_iff_not] at h1
  simp only [ge_iff_le, decide_eq_true_eq]
  apply Int.not_lt.1
  intro h3
  exact h1 (cmpT_le_lt h2 h3)
theorem con34 {Φ : Specs} (hg : Idl.Good Try.prog Φ) (h50 : Φ 50 = none) (h51 : Φ 51 = none) (h28 : Φ 28 = some SKey) (h29 : Φ 29 = some SCmpT) : Contract Try.prog 34 SBounds := by
  refine conT hg k34 ic34 (by decide) fun C t r h => ?_
  obtain ⟨l, x, y, u⟩ := t
  dsimp only at h
  split at h
  · rename_i hl
    have hl := colS_ok.1 hl
    cases h
    simp +contextual only [go_sem, ↓reduceIte, Nat.reduceEqDiff, Nat.reduceAdd, Nat.reduceLeDiff, Nat.reduceLT, reduceCtorEq, c34, k34, List.length_map, h50]
    refine ct50 hg (pAt l (kAt x y)) (by have := hl.len; omega) (fromB l (kAt x y)) (takeW _ l).1 (fun i hi => pAt_lo _ hi) (fun i h1 h2 => pAt_hi hl _ h1 h2) (fun C' s' i hs hi => ?_) ?_
    · obtain ⟨τ', H', n'⟩ := s'
      dsimp only at hs
      subst hs
      refine CallT.of_walk hg k51 ic51 (by simp) fun C2 hlow => ?_
      have hx : l[i]? = some l[i] := by simp
      simp +contextual only [go_sem, ↓reduceIte, Nat.reduceEqDiff, Nat.reduceAdd, Nat.reduceLeDiff, Nat.reduceLT, reduceCtorEq, c51, k51, h28, h29, hx, List.getElem?_map, Option.map_some, Int.natCast_nonneg, Int.toNat_natCast]
      refine ⟨rfl, ?_⟩
      unfold pAt
      rw [hx]
      rfl
    · rintro ⟨τ', H', n'⟩ hs
      dsimp only at hs
      subst hs
      have hlen := hl.len
      refine TriI.loopA hg k34 (fun i : Nat => ⟨slotsL [(3, .ref 0 0 0), (8, .ref 1 0 0), (9, .sc (.int .i64 (fromB l (kAt x y) : Nat))), (10, .sc (.int .i64 (i : Nat)))], objsL [.live 1 [Cod.enc l] true, .live 3 [Cod.enc (kAt x y)] true], 2⟩)
        (fun i => i ≤ l.length ∧ toB l (kAt x y) = i + ((l.drop i).takeWhile (sameK (kAt x y))).length) (fun i => l.length - i) (fromB l (kAt x y)) (.back rfl ?_) ⟨(takeW _ l).1, rfl⟩ ?_
      · simp +contextual only [go_sem, ↓reduceIte, Nat.reduceEqDiff, Nat.reduceAdd, Nat.reduceLeDiff, Nat.reduceLT, reduceCtorEq]
        rfl
      · rintro i ⟨h1, h2⟩
        by_cases hi : i < l.length
        · have hx : l[i]? = some l[i] := by simp
          have hw := wrap_nat hi (by omega)
          simp +contextual only [go_sem, ↓reduceIte, Nat.reduceEqDiff, Nat.reduceAdd, Nat.reduceLeDiff, Nat.reduceLT, reduceCtorEq, k34, h28, h29, lt_dec hi, hx, List.length_map, List.getElem?_map, Option.map_some, Int.natCast_nonneg, Int.toNat_natCast, hw]
          have hdr : l.drop i = l[i] :: l.drop (i + 1) := List.drop_eq_getElem_cons hi
          rw [hdr] at h2
          refine ⟨rfl, fun hb => ⟨i + 1, by dsimp only; omega, ⟨by omega, ?_⟩, .back rfl ?_⟩, fun hb => ?_⟩
          · rw [List.takeWhile_cons_of_pos (show sameK (kAt x y) l[i] = true from hb)] at h2
            rw [h2, List.length_cons]; omega
          · simp +contextual only [go_sem, ↓reduceIte, Nat.reduceEqDiff, Nat.reduceAdd, Nat.reduceLeDiff, Nat.reduceLT, reduceCtorEq]
          · rw [List.takeWhile_cons_of_neg (by simpa [sameK] using hb)] at h2
            rw [h2]; simp
        · have hd : decide ((i : Int) < (l.length : Int)) = false := by simp; omega
          simp +contextual only [go_sem, ↓reduceIte, Nat.reduceEqDiff, Nat.reduceAdd, Nat.reduceLeDiff, Nat.reduceLT, reduceCtorEq, k34, hd, List.length_map]
          rw [List.drop_eq_nil_of_le (by omega)] at h2
          rw [h2]
          exact ⟨rfl, rfl⟩
  · cases h
end Go.Proofs.Ytnafhnnhhdmnfaa
