/-
  A region whose order is drawn: the evaluator's answer holds in every order.
-/
import Derived.Test.YtnafhnnhhdmnfaaIdlO
namespace Go.Idl
set_option linter.all false
open Go.RowKit

structure Rec where
  v : V
  δ : List (Nat × Obj)
  rd : List Nat

def trace (P : Program) (Φ : Specs) (ops : Array Oper) (n0 : Nat) : List Oper → Nat → (Nat → V) → Heap → Option (List Rec × (Nat → V) × Heap)
  | [], _, τ, H => some ([], τ, H)
  | o :: r, i, τ, H => match wantV τ ops o with
    | some true => match ev P Φ (n0 + i) (opd τ) H o with
      | some (v, δ) => match trace P Φ ops n0 r (i + 1) (putF τ o.dst v) (putH H δ) with
        | some p => some (⟨v, δ, need (n0 + i) (opd τ) o⟩ :: p.1, p.2)
        | none => none
      | none => none
    | some false => match trace P Φ ops n0 r (i + 1) (putF τ o.dst (.sc undef)) H with
      | some p => some (⟨.sc undef, [], []⟩ :: p.1, p.2)
      | none => none
    | none => none

def traceL (P : Program) (Φ : Specs) (ops : Array Oper) (n0 : Nat) : List Oper → Nat → List V → List Obj → Option (List Rec × St)
  | [], _, τ, H => some ([], ⟨τ, H⟩)
  | o :: r, i, τ, H => match wantV (getT τ) ops o with
    | some true => match ev P Φ (n0 + i) (opd (getT τ)) (getO H) o with
      | some (v, δ) => match traceL P Φ ops n0 r (i + 1) (putD τ o.dst v) (setOs H δ) with
        | some p => some (⟨v, δ, need (n0 + i) (opd (getT τ)) o⟩ :: p.1, p.2)
        | none => none
      | none => none
    | some false => match traceL P Φ ops n0 r (i + 1) (putD τ o.dst (.sc undef)) H with
      | some p => some (⟨.sc undef, [], []⟩ :: p.1, p.2)
      | none => none
    | none => none

theorem traceL_eq {P : Program} {Φ : Specs} {ops : Array Oper} {n0 : Nat} : ∀ (l : List Oper) (i : Nat) (τ : List V) (H : List Obj) (recs : List Rec) (s' : St), traceL P Φ ops n0 l i τ H = some (recs, s') →
    trace P Φ ops n0 l i (getT τ) (getO H) = some (recs, getT s'.τ, getO s'.H)
  | [], i, τ, H, recs, s', h => by
    simp only [traceL, Option.some.injEq, Prod.mk.injEq] at h
    obtain ⟨rfl, rfl⟩ := h
    rfl
  | o :: r, i, τ, H, recs, s', h => by
    simp only [traceL] at h
    simp only [trace]
    split at h
    · rename_i hw
      try rw [hw]
      try dsimp only
      split at h
      · rename_i v δ hev
        try rw [hev]
        try dsimp only
        split at h
        · rename_i p hp
          simp only [Option.some.injEq, Prod.mk.injEq] at h
          have := traceL_eq r (i + 1) _ _ p.1 p.2 hp
          rw [getT_putD, getO_sets] at this
          rw [this, ← h.1, ← h.2]
        · cases h
      · cases h
    · rename_i hw
      try rw [hw]
      try dsimp only
      split at h
      · rename_i p hp
        simp only [Option.some.injEq, Prod.mk.injEq] at h
        have := traceL_eq r (i + 1) _ _ p.1 p.2 hp
        rw [getT_putD] at this
        rw [this, ← h.1, ← h.2]
      · cases h
    · cases h

def clash (x y : Rec) : Bool := x.δ.any (fun p => y.rd.contains p.1 || y.δ.any (fun q => q.1 == p.1)) || y.δ.any (fun p => x.rd.contains p.1)
def rec0 : Rec := ⟨.any, [], []⟩
def apartAll (bef : List Nat) (recs : List Rec) : Bool :=
  (List.range recs.length).all fun j => (List.range j).all fun i => (bef.getD j 0).testBit i || !clash (recs.getD i rec0) (recs.getD j rec0)
def oper0 : Oper := { dst := none, op := .move (.const undef), type := 0, pos := "", after := #[], guard := none }
/-- Edges lead backward, and operations that are not ordered do not name one another's temporaries. -/
def drawOk (ops : Array Oper) : Bool :=
  let bef := befs ops.toList []
  (List.range ops.size).all fun j => (ops.getD j oper0).after.all (fun e => !Region.binds .any e || decide (e.on < j)) &&
    (List.range j).all fun i => (bef.getD j 0).testBit i || Oper.apart ops (ops.getD i oper0) (ops.getD j oper0)

def evDraw (P : Program) (Φ : Specs) (ops : Array Oper) (s : St) : Option St :=
  match traceL P Φ ops s.H.length ops.toList 0 s.τ s.H with
  | some (recs, s') => if apartAll (befs ops.toList []) recs then some s' else none
  | none => none

def lastOf (x : Nat) : List (Nat × Obj) → Option Obj
  | [] => none
  | (id, y) :: r => match lastOf x r with
    | some z => some z
    | none => if x = id then some y else none

theorem putH_last (x : Nat) : ∀ (δ : List (Nat × Obj)) (H : Heap), putH H δ x = (lastOf x δ).getD (H x)
  | [], H => rfl
  | (id, y) :: r, H => by
    rw [putH_cons, putH_last x r]
    simp only [lastOf]
    cases h : lastOf x r with
    | some z => rfl
    | none =>
      simp only [Option.getD_none, updH]
      split <;> simp_all

theorem lastOf_mem {x : Nat} : ∀ {δ : List (Nat × Obj)}, lastOf x δ ≠ none → ∃ y, (x, y) ∈ δ
  | [], h => by simp [lastOf] at h
  | (id, y) :: r, h => by
    simp only [lastOf] at h
    cases hr : lastOf x r with
    | some z =>
      obtain ⟨y', hy'⟩ := lastOf_mem (x := x) (δ := r) (by simp [hr])
      exact ⟨y', by simp [hy']⟩
    | none =>
      simp [hr] at h
      subst h
      exact ⟨y, by simp⟩

section
variable {P : Program} {Φ : Specs} {ops : Array Oper} {n0 : Nat} (R : Nat → Rec) (τ0 : Nat → V) (H0 : Heap)

def wrT (ops : Array Oper) (k t : Nat) : Option V := (ops[k]?).bind fun o => if o.dst = some t then some (R k).v else none
def wrH (k x : Nat) : Option Obj := lastOf x (R k).δ

def curT (ops : Array Oper) := cur (wrT R ops) τ0
def curH := cur (wrH R) H0

/-- What the trace says of an operation. -/
def Fact (P : Program) (Φ : Specs) (ops : Array Oper) (n0 : Nat) (k : Nat) (o : Oper) : Prop :=
  (wantV (curT R τ0 ops (fun _ => true) k) ops o = some true ∧ ev P Φ (n0 + k) (opd (curT R τ0 ops (fun _ => true) k)) (curH R H0 (fun _ => true) k) o = some ((R k).v, (R k).δ) ∧
    (R k).rd = need (n0 + k) (opd (curT R τ0 ops (fun _ => true) k)) o) ∨
  (wantV (curT R τ0 ops (fun _ => true) k) ops o = some false ∧ (R k).v = .sc undef ∧ (R k).δ = [])

theorem putF_at (τ : Nat → V) (d : Option Nat) (v : V) (t : Nat) : putF τ d v t = if d = some t then v else τ t := by
  cases d with
  | none => simp [putF]
  | some d =>
    simp only [putF, updT, Option.some.injEq]
    by_cases e : t = d
    · subst e; simp
    · rw [if_neg e, if_neg (fun h => e h.symm)]

theorem trace_facts : ∀ (l : List Oper) (i : Nat) (τ : Nat → V) (H : Heap) (recs : List Rec) (τ' : Nat → V) (H' : Heap), (∀ k o, l[k]? = some o → ops[i + k]? = some o) → (∀ k r, recs[k]? = some r → R (i + k) = r) →
    τ = curT R τ0 ops (fun _ => true) i → H = curH R H0 (fun _ => true) i → trace P Φ ops n0 l i τ H = some (recs, τ', H') →
    recs.length = l.length ∧ (∀ k o, l[k]? = some o → Fact R τ0 H0 P Φ ops n0 (i + k) o) ∧ τ' = curT R τ0 ops (fun _ => true) (i + l.length) ∧ H' = curH R H0 (fun _ => true) (i + l.length)
  | [], i, τ, H, recs, τ', H', _, _, hτ, hH, h => by
    simp only [trace, Option.some.injEq, Prod.mk.injEq] at h
    obtain ⟨rfl, rfl, rfl⟩ := h
    exact ⟨rfl, by simp, hτ, hH⟩
  | o :: r, i, τ, H, recs, τe, He, hl, hR, hτ, hH, h => by
    have ho : ops[i]? = some o := by simpa using hl 0 o rfl
    have hl' : ∀ k o', r[k]? = some o' → ops[i + 1 + k]? = some o' := fun k o' hk => by
      have := hl (k + 1) o' (by simpa using hk)
      rw [← this]
      congr 1
      omega
    have fin : ∀ {τ' : Nat → V} {H' : Heap} {v : V} {δ : List (Nat × Obj)} {rd : List Nat} {p : List Rec × (Nat → V) × Heap}, trace P Φ ops n0 r (i + 1) τ' H' = some p → recs = ⟨v, δ, rd⟩ :: p.1 → (τe, He) = p.2 →
        τ' = putF τ o.dst v → H' = putH H δ → (R i = ⟨v, δ, rd⟩ → Fact R τ0 H0 P Φ ops n0 i o) →
        recs.length = (o :: r).length ∧ (∀ k o', (o :: r)[k]? = some o' → Fact R τ0 H0 P Φ ops n0 (i + k) o') ∧ τe = curT R τ0 ops (fun _ => true) (i + (o :: r).length) ∧ He = curH R H0 (fun _ => true) (i + (o :: r).length) := by
      intro τ' H' v δ rd p hp hrecs hs' hτ' hH' hfact
      obtain ⟨p1, p2, p3⟩ := p
      simp only [Prod.mk.injEq] at hs'
      obtain ⟨rfl, rfl⟩ := hs'
      subst hrecs hτ' hH'
      have hRi : R i = ⟨v, δ, rd⟩ := by simpa using hR 0 ⟨v, δ, rd⟩ rfl
      obtain ⟨h1, h2, h3, h4⟩ := trace_facts r (i + 1) _ _ p1 _ _ hl' (fun k q hq => by
          have := hR (k + 1) q (by simpa using hq)
          rw [← this]
          congr 1
          omega) (by
          funext t
          rw [putF_at, hτ]
          simp only [curT, cur, wrT, ho, Option.bind_some, hRi, if_true]
          split <;> simp_all) (by
          funext x
          rw [putH_last, hH]
          simp only [curH, cur, wrH, hRi, if_true]) hp
      refine ⟨by simp [h1], fun k o' hk => ?_, ?_, ?_⟩
      · cases k with
        | zero => simp at hk; subst hk; exact hfact hRi
        | succ k =>
          have := h2 k o' (by simpa using hk)
          rw [show i + (k + 1) = i + 1 + k from by omega]
          exact this
      · rw [h3]; congr 1; simp; omega
      · rw [h4]; congr 1; simp; omega
    simp only [trace] at h
    split at h
    · rename_i hw
      split at h
      · rename_i v δ hev
        split at h
        · rename_i p hp
          simp only [Option.some.injEq, Prod.mk.injEq] at h
          exact fin hp h.1.symm h.2.symm rfl rfl fun hRi => .inl ⟨by rw [← hτ]; exact hw, by rw [← hτ, ← hH, hRi]; exact hev, by rw [← hτ, hRi]⟩
        · cases h
      · cases h
    · rename_i hw
      split at h
      · rename_i p hp
        simp only [Option.some.injEq, Prod.mk.injEq] at h
        exact fin (δ := []) hp h.1.symm h.2.symm rfl rfl fun hRi => .inr ⟨by rw [← hτ]; exact hw, by rw [hRi], by rw [hRi]⟩
      · cases h
    · cases h
end

end Go.Idl
