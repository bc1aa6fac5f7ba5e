/-
  States with lists; a region in the order of the text.
-/
import Derived.Test.YtnafhnnhhdmnfaaIdlL
import Derived.Tactics
namespace Go.Idl
set_option linter.all false
open Go.RowKit

def getT : List V → Nat → V
  | [], _ => .any
  | x :: _, 0 => x
  | _ :: xs, n + 1 => getT xs n
def setT : List V → Nat → V → List V
  | [], 0, v => [v]
  | [], n + 1, v => .any :: setT [] n v
  | _ :: xs, 0, v => v :: xs
  | x :: xs, n + 1, v => x :: setT xs n v
def getO : List Obj → Nat → Obj
  | [], _ => .unborn
  | x :: _, 0 => x
  | _ :: xs, n + 1 => getO xs n
def setO : List Obj → Nat → Obj → List Obj
  | [], 0, v => [v]
  | [], n + 1, v => .unborn :: setO [] n v
  | _ :: xs, 0, v => v :: xs
  | x :: xs, n + 1, v => x :: setO xs n v

theorem getT_set (l : List V) (d : Nat) (v : V) : getT (setT l d v) = updT (getT l) d v := by
  funext t
  unfold updT
  induction l generalizing d t with
  | nil =>
    induction d generalizing t with
    | zero => cases t <;> simp [setT, getT]
    | succ d ih => cases t <;> simp [setT, getT, ih]
  | cons x l ih => cases d <;> cases t <;> simp [setT, getT, ih]
theorem getO_set (l : List Obj) (d : Nat) (v : Obj) : getO (setO l d v) = updH (getO l) d v := by
  funext t
  unfold updH
  induction l generalizing d t with
  | nil =>
    induction d generalizing t with
    | zero => cases t <;> simp [setO, getO]
    | succ d ih => cases t <;> simp [setO, getO, ih]
  | cons x l ih => cases d <;> cases t <;> simp [setO, getO, ih]

structure St where
  τ : List V
  H : List Obj

def setOs (H : List Obj) : List (Nat × Obj) → List Obj
  | [] => H
  | (id, x) :: r => setOs (setO H id x) r

theorem getO_sets (δ : List (Nat × Obj)) : ∀ H : List Obj, getO (setOs H δ) = putH (getO H) δ := by
  induction δ with
  | nil => intro H; rfl
  | cons p δ ih =>
    intro H
    obtain ⟨id, x⟩ := p
    simp only [setOs, ih, getO_set, putH_cons]

def putD (τ : List V) : Option Nat → V → List V
  | some d, v => setT τ d v
  | none, _ => τ

def putF (τ : Nat → V) : Option Nat → V → Nat → V
  | some d, v => updT τ d v
  | none, _ => τ
theorem getT_putD (τ : List V) (d : Option Nat) (v : V) : getT (putD τ d v) = putF (getT τ) d v := by
  cases d with
  | none => rfl
  | some d => exact getT_set τ d v

def wantV (τ : Nat → V) (ops : Array Oper) (o : Oper) : Option Bool :=
  match o.guard with
  | none => some true
  | some (j, want) => match (ops[j]?).bind (·.dst) with
    | none => some false
    | some t => match τ t with
      | .sc (.bool b) => some (b == want)
      | .sc (.tuple _) => some false
      | _ => none

def evSeq (P : Program) (Φ : Specs) (ops : Array Oper) : List Oper → St → Option St
  | [], s => some s
  | o :: rest, s => match wantV (getT s.τ) ops o with
    | some true => match ev P Φ s.H.length (opd (getT s.τ)) (getO s.H) o with
      | some (v, δ) => evSeq P Φ ops rest ⟨putD s.τ o.dst v, setOs s.H δ⟩
      | none => none
    | some false => evSeq P Φ ops rest ⟨putD s.τ o.dst (.sc undef), s.H⟩
    | none => none

def SimS (C : Ctx) (s : St) (a : Act) (w : World) : Prop := ∃ γ I, Sim C γ I (getT s.τ) (getO s.H) a.tmps w

variable {P : Program} {C : Ctx} {γ : Places} {I : Imm} {τ : Nat → V} {H : Heap} {w : World} {a : Act} {o : Oper}

theorem wantV_sound (hS : Sim C γ I τ H a.tmps w) {ops : Array Oper} {b : Bool} (h : wantV τ ops o = some b) : Region.wanted o (yielded ops a.tmps) = b := by
  unfold wantV at h
  unfold Region.wanted
  split at h
  · rename_i hg; cases h; rw [hg]
  · rename_i j want hg
    rw [hg]
    dsimp only
    split at h
    · rename_i hd
      cases h
      simp [yielded, hd]
    · rename_i t hd
      have hr := hS.tmp t
      split at h
      · rename_i b' hb
        cases h
        rw [hb] at hr
        have he := hr.sc_eq
        have : a.tmps[t]? = some (.bool b') := by
          cases hh : a.tmps[t]? with
          | none => simp [hh, undef] at he
          | some u => simp [hh] at he; rw [he]
        simp [yielded, hd, this]
      · rename_i vs hb
        cases h
        rw [hb] at hr
        have he := hr.sc_eq
        cases hh : a.tmps[t]? with
        | none => simp [yielded, hd, hh]
        | some u => simp [hh] at he; simp [yielded, hd, hh, he]
      · cases h

def dstOk (n : Nat) (o : Oper) : Bool := match o.dst with
  | some d => decide (d < n)
  | none => true

theorem sim_putF {H' : Heap} (hS : Sim C γ I τ H' a.tmps w) {v : V} {u : Value} (hr : Rep I w γ v u) (hd : dstOk a.tmps.size o = true) :
    Sim C γ I (putF τ o.dst v) H' (a.put o.dst u).tmps w ∧ (a.put o.dst u).tmps.size = a.tmps.size ∧ (a.put o.dst u).defers = a.defers := by
  unfold dstOk at hd
  cases ho : o.dst with
  | none => exact ⟨hS, rfl, rfl⟩
  | some d =>
    rw [ho] at hd
    simp only [decide_eq_true_eq] at hd
    refine ⟨?_, by simp [Act.put], rfl⟩
    simp only [putF, Act.put]
    exact hS.put hr hd

theorem sim_put {τ : List V} {H' : Heap} (hS : Sim C γ I (getT τ) H' a.tmps w) {v : V} {u : Value} (hr : Rep I w γ v u) (hd : dstOk a.tmps.size o = true) :
    Sim C γ I (getT (putD τ o.dst v)) H' (a.put o.dst u).tmps w ∧ (a.put o.dst u).tmps.size = a.tmps.size ∧ (a.put o.dst u).defers = a.defers := by
  unfold dstOk at hd
  cases ho : o.dst with
  | none => exact ⟨hS, rfl, rfl⟩
  | some d =>
    rw [ho] at hd
    simp only [decide_eq_true_eq] at hd
    refine ⟨?_, by simp [Act.put], rfl⟩
    simp only [putD, Act.put, getT_set]
    exact hS.put hr hd

theorem evSeq_sound {Φ : Specs} (hΦ : Met P Φ) {ops : Array Oper} {n : Nat} {ds : List Deferred} {Q : Exit → Act → World → Prop} : ∀ (l : List Oper) (s s' : St) (a : Act) (w : World), l.all (dstOk n) = true → a.tmps.size = n → a.defers = ds →
    SimS C s a w → evSeq P Φ ops l s = some s' → (∀ a' w', a'.tmps.size = n → a'.defers = ds → SimS C s' a' w' → Q .normal a' w') → wpList P ops Q l a w
  | [], s, s', a, w, _, hn, hds, hS, h, hQ => by
    simp only [evSeq, Option.some.injEq] at h
    subst h
    exact hQ a w hn hds hS
  | o :: rest, s, s', a, w, hok, hn, hds, hS, h, hQ => by
    obtain ⟨γ, I, hS⟩ := hS
    simp only [List.all_cons, Bool.and_eq_true] at hok
    simp only [evSeq] at h
    refine wpList_step fun K hK => ?_
    split at h
    · rename_i hw
      rw [if_pos (wantV_sound hS hw)]
      split at h
      · rename_i v δ hev
        refine ev_sound hΦ hS hev K Q fun u w' γ' I' hS' hr => hK _ _ ?_
        rw [← getO_sets] at hS'
        obtain ⟨h1, h2, h3⟩ := sim_put hS' hr (by rw [hn]; exact hok.1)
        exact evSeq_sound hΦ rest _ s' _ w' hok.2 (h2.trans hn) (h3.trans hds) ⟨γ', I', h1⟩ h hQ
      · cases h
    · rename_i hw
      rw [if_neg (by rw [wantV_sound hS hw]; simp)]
      obtain ⟨h1, h2, h3⟩ := sim_put hS (Rep.sc (I := I) (w := w) γ undef) (by rw [hn]; exact hok.1)
      exact hK _ _ (evSeq_sound hΦ rest _ s' _ w hok.2 (h2.trans hn) (h3.trans hds) ⟨γ, I, h1⟩ h hQ)
    · cases h

end Go.Idl
