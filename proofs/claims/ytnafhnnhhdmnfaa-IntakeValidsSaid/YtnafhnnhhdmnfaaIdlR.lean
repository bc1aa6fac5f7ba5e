/-
  Whole bodies: what a state comes to, piece by piece; a function's contract out of its body.
-/
import Derived.Test.YtnafhnnhhdmnfaaIdlQ
namespace Go.Idl
set_option linter.all false
open Go.RowKit

def evReg (P : Program) (Φ : Specs) (ops : Array Oper) (d : Bool) (s : St) : Option St :=
  if d then evDraw P Φ ops s else evSeq P Φ ops ops.toList s

def okCode (n : Nat) : Code → Bool
  | .region _ ops d => ops.toList.all (dstOk n) && (!d || drawOk ops)
  | .seq x y => okCode n x && okCode n y
  | .cond _ x y => okCode n x && okCode n y
  | .block _ b => okCode n b
  | .loop b => okCode n b
  | .skip => true
  | .exit _ => true
  | .ret => true
  | .label _ => true
  | _ => false

/-- The contracts are met, and orders are drawn freely. -/
structure Good (P : Program) (Φ : Specs) : Prop where
  met : Met P Φ
  orders : P.follows .mixedOrders = true

/-- From an ideal state a piece of code comes to what is said. -/
def Tri (P : Program) (C : Ctx) (n : Nat) (c : Code) (s : St) (Q : Exit → St → Prop) : Prop :=
  okCode n c = true → ∀ a w, a.tmps.size = n → a.defers = [] → SimS C s a w →
    c.wp P (fun e a' w' => a'.tmps.size = n ∧ a'.defers = [] ∧ ∃ s', Q e s' ∧ SimS C s' a' w') a w

/-- Of the second state no more is known than of the first. -/
def Le (s s' : St) : Prop := ∀ C a w, SimS C s a w → SimS C s' a w
theorem Le.refl (s : St) : Le s s := fun _ _ _ h => h
theorem Le.trans {s s' s'' : St} (h : Le s s') (h' : Le s' s'') : Le s s'' := fun C a w hh => h' C a w (h C a w hh)

variable {P : Program} {C : Ctx} {n : Nat} {s : St} {Q : Exit → St → Prop}

theorem Tri.mono {c : Code} {Q' : Exit → St → Prop} (h : Tri P C n c s Q) (hq : ∀ e s, Q e s → Q' e s) : Tri P C n c s Q' :=
  fun hok a w hn hd hS => wp_mono (h hok a w hn hd hS) fun e a' w' ⟨h1, h2, s', h3, h4⟩ => ⟨h1, h2, s', hq _ _ h3, h4⟩

theorem Tri.weaken {c : Code} {s' : St} (hl : Le s s') (h : Tri P C n c s' Q) : Tri P C n c s Q :=
  fun hok a w hn hd hS => h hok a w hn hd (hl C a w hS)

theorem Tri.skip (h : Q .normal s) : Tri P C n .skip s Q := fun _ _ _ hn hd hS => wp_skip ⟨hn, hd, s, h, hS⟩
theorem Tri.label {l : Nat} (h : Q .normal s) : Tri P C n (.label l) s Q := fun _ _ _ hn hd hS => wp_label ⟨hn, hd, s, h, hS⟩
theorem Tri.exit {id : Nat} (h : Q (.exit id) s) : Tri P C n (.exit id) s Q := fun _ _ _ hn hd hS => wp_exit ⟨hn, hd, s, h, hS⟩
theorem Tri.ret (h : Q .ret s) : Tri P C n .ret s Q := fun _ _ _ hn hd hS => wp_ret ⟨hn, hd, s, h, hS⟩

theorem Tri.region {Φ : Specs} (hg : Good P Φ) {id : Nat} {ops : Array Oper} {d : Bool} {s' : St} (h : evReg P Φ ops d s = some s') (hq : Q .normal s') : Tri P C n (.region id ops d) s Q := by
  intro hok a w hn hd hS
  simp only [okCode, Bool.and_eq_true, Bool.or_eq_true, Bool.not_eq_true'] at hok
  cases d with
  | true =>
    have hdr : drawOk ops = true := hok.2.resolve_left (by simp)
    simp only [evReg, if_true] at h
    exact evDraw_sound hg.met hg.orders hok.1 hdr hn hd hS h fun a' w' h1 h2 h3 => ⟨h1, h2, s', hq, h3⟩
  | false =>
    simp only [evReg, Bool.false_eq_true, if_false] at h
    exact wp_region_list (evSeq_sound hg.met _ _ _ _ _ hok.1 hn hd hS h fun a' w' h1 h2 h3 => ⟨h1, h2, s', hq, h3⟩)

/-- What follows a piece, where it ends plainly. -/
def andThen (K : St → Prop) (Q : Exit → St → Prop) : Exit → St → Prop
  | .normal, s => K s
  | e, s => Q e s

theorem Tri.seq {x y : Code} (h : Tri P C n x s (andThen (fun s' => Tri P C n y s' Q) Q)) : Tri P C n (.seq x y) s Q := by
  intro hok a w hn hd hS
  simp only [okCode, Bool.and_eq_true] at hok
  refine wp_seq (wp_mono (h hok.1 a w hn hd hS) ?_)
  rintro e a' w' ⟨h1, h2, s', h3, h4⟩
  cases e with
  | normal => exact h3 hok.2 a' w' h1 h2 h4
  | _ => exact ⟨h1, h2, s', h3, h4⟩

theorem Tri.cond {c : Operand} {x y : Code} {t : Bool} (hc : opd (getT s.τ) c = .sc (.bool t)) (h : Tri P C n (if t then x else y) s Q) : Tri P C n (.cond c x y) s Q := by
  intro hok a w hn hd hS
  simp only [okCode, Bool.and_eq_true] at hok
  obtain ⟨γ, I, hS'⟩ := hS
  have hr := hS'.opd a.defers c
  rw [hc] at hr
  refine wp_cond hr.sc_eq (h ?_ a w hn hd ⟨γ, I, hS'⟩)
  cases t
  · exact hok.2
  · exact hok.1

theorem Tri.ite {c : Operand} {x y : Code} {p : Prop} [Decidable p] (hc : opd (getT s.τ) c = .sc (.bool (decide p))) (h1 : p → Tri P C n x s Q) (h2 : ¬ p → Tri P C n y s Q) : Tri P C n (.cond c x y) s Q := by
  by_cases hp : p
  · exact Tri.cond hc (by simpa [hp] using h1 hp)
  · exact Tri.cond hc (by simpa [hp] using h2 hp)

def inBlock (id : Nat) (Q : Exit → St → Prop) : Exit → St → Prop
  | .exit id', s => if id' = id then Q .normal s else Q (.exit id') s
  | e, s => Q e s

theorem Tri.block {id : Nat} {c : Code} (h : Tri P C n c s (inBlock id Q)) : Tri P C n (.block id c) s Q := by
  intro hok a w hn hd hS
  refine wp_block (wp_mono (h hok a w hn hd hS) ?_)
  rintro e a' w' ⟨h1, h2, s', h3, h4⟩
  cases e with
  | exit id' =>
    simp only [Exit.inBlock, Idl.inBlock] at h3 ⊢
    split at h3
    · rename_i e; rw [if_pos e]; exact ⟨h1, h2, s', h3, h4⟩
    · rename_i e; rw [if_neg e]; exact ⟨h1, h2, s', h3, h4⟩
  | _ => exact ⟨h1, h2, s', h3, h4⟩

theorem wp_loop_idx {c : Code} {Q : Exit → Act → World → Prop} {a : Act} {w : World} (J : Nat → Act → World → Prop) {m : Nat} (h₀ : J m a w)
    (round : ∀ m a w, J m a w → c.wp P (Exit.then (fun a' w' => ∃ k, k < m ∧ J k a' w') Q) a w) : (Code.loop c).wp P Q a w := by
  intro b k cs
  have key : ∀ m a w, J m a w → ∃ e a' w', Q e a' w' ∧ Arrives P (lone (b.at a (.code c :: .inLoop c :: k)) cs w) b k cs e a' w' := by
    intro m
    induction m using Nat.strongRecOn with
    | _ m ih =>
      intro a w hJ
      obtain ⟨e, a₁, w₁, hq, harr⟩ := round m a w hJ b (.inLoop c :: k) cs
      cases e with
      | normal =>
        obtain ⟨m', hlt, hJ'⟩ := hq
        obtain ⟨e₂, a₂, w₂, hq₂, harr₂⟩ := ih m' hlt a₁ w₁ hJ'
        exact ⟨e₂, a₂, w₂, hq₂, .of_steps (Steps.trans harr (.one step_inLoop)) harr₂⟩
      | exit id => exact ⟨_, a₁, w₁, hq, .pass (x := .inLoop c) rfl (fun _ _ => .inl (by simp)) harr⟩
      | goto l => exact ⟨_, a₁, w₁, hq, .pass (x := .inLoop c) rfl (fun _ _ => .inl (by simp)) harr⟩
      | ret => exact ⟨_, a₁, w₁, hq, .pass (x := .inLoop c) rfl (fun _ _ => .inl (by simp)) harr⟩
      | panic ch => exact ⟨_, a₁, w₁, hq, .pass (x := .inLoop c) rfl (fun _ _ => .inl (by simp)) harr⟩
      | outgrown => exact ⟨_, a₁, w₁, hq, .pass (x := .inLoop c) rfl (fun _ _ => .inl (by simp)) harr⟩
  obtain ⟨e, a', w', hq, harr⟩ := key _ a w h₀
  exact ⟨e, a', w', hq, .of_steps (.one step_loop) harr⟩

/-- A loop: states by what they hold; each round comes to a smaller one. -/
theorem Tri.loop {c : Code} (J : Nat → St → Prop) {m : Nat} (h0 : J m s) (round : ∀ m s, J m s → Tri P C n c s (andThen (fun s' => ∃ k s'', k < m ∧ J k s'' ∧ Le s' s'') Q)) : Tri P C n (.loop c) s Q := by
  intro hok a w hn hd hS
  refine wp_loop_idx (fun m a w => a.tmps.size = n ∧ a.defers = [] ∧ ∃ s, J m s ∧ SimS C s a w) (m := m) ⟨hn, hd, s, h0, hS⟩ ?_
  rintro m a w ⟨h1, h2, s, hJ, hS⟩
  refine wp_mono (round m s hJ hok a w h1 h2 hS) ?_
  rintro e a' w' ⟨h3, h4, s', h5, h6⟩
  cases e with
  | normal =>
    obtain ⟨k, s'', hk, hJ', hle⟩ := h5
    exact ⟨k, hk, h3, h4, s'', hJ', hle C a' w' h6⟩
  | _ => exact ⟨h3, h4, s', h5, h6⟩

/-! ### The end of a body -/
def resOne (P : Program) (s : St) : ResultVar → Option V
  | .tmp t => some (getT s.τ t)
  | .cell x t => evLoad P (getO s.H) t (getT s.τ x)
def resL (P : Program) (s : St) : List ResultVar → Option (List V)
  | [] => some []
  | r :: rs => match resOne P s r, resL P s rs with
    | some x, some xs => some (x :: xs)
    | _, _ => none
def resV (P : Program) (fn : Func) (s : St) : Option V :=
  (resL P s fn.results.toList).bind fun xs => (freezes (getO s.H) xs).map fun
    | [x] => x
    | ys => .tup ys

end Go.Idl
