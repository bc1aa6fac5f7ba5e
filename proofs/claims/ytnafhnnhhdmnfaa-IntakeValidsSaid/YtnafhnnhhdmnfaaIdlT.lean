/-
  A body run to its end, with so much fuel; the contracts that running gives.
-/
import Derived.Test.YtnafhnnhhdmnfaaIdlS
namespace Go.Idl
set_option linter.all false
open Go.RowKit

def run (P : Program) (Φ : Specs) : Nat → Code → St → Option (Exit × St)
  | 0, _, _ => none
  | f + 1, c, s => match c with
    | .skip => some (.normal, s)
    | .label _ => some (.normal, s)
    | .region _ ops d => match evReg P Φ ops d s with
      | some s' => some (.normal, s')
      | none => none
    | .seq x y => match run P Φ f x s with
      | some (.normal, s') => run P Φ f y s'
      | r => r
    | .cond c x y => match opd (getT s.τ) c with
      | .sc (.bool t) => run P Φ f (if t then x else y) s
      | _ => none
    | .block id b => match run P Φ f b s with
      | some (.exit id', s') => if id' = id then some (.normal, s') else some (.exit id', s')
      | r => r
    | .loop b => match run P Φ f b s with
      | some (.normal, s') => run P Φ f (.loop b) s'
      | r => r
    | .exit id => some (.exit id, s)
    | .ret => some (.ret, s)
    | _ => none

variable {P : Program} {C : Ctx} {n : Nat}

theorem run_sound {Φ : Specs} (hg : Good P Φ) : ∀ (f : Nat) (c : Code) (s s' : St) (e : Exit), run P Φ f c s = some (e, s') → Tri P C n c s fun e' s'' => e' = e ∧ s'' = s' := by
  intro f
  induction f using Nat.strongRecOn with
  | _ f ih =>
    intro c s s' e h
    cases f with
    | zero => simp [run] at h
    | succ f =>
      cases c <;> simp only [run] at h
      case skip => cases h; exact .skip ⟨rfl, rfl⟩
      case label => cases h; exact .label ⟨rfl, rfl⟩
      case exit => cases h; exact .exit ⟨rfl, rfl⟩
      case ret => cases h; exact .ret ⟨rfl, rfl⟩
      case region id ops d =>
        split at h
        · rename_i s1 h1; cases h; exact .region hg h1 ⟨rfl, rfl⟩
        · cases h
      case seq x y =>
        refine .seq ?_
        cases hx : run P Φ f x s with
        | none => simp [hx] at h
        | some p =>
          obtain ⟨e1, s1⟩ := p
          refine (ih f (by omega) x s s1 e1 hx).mono ?_
          rintro e2 s2 ⟨rfl, rfl⟩
          rw [hx] at h
          cases e2 with
          | normal => exact ih f (by omega) y s2 s' e h
          | _ => simp at h; exact ⟨h.1, h.2⟩
      case cond c x y =>
        split at h
        · rename_i t hc
          exact .cond hc (ih f (by omega) _ s s' e h)
        · cases h
      case block id b =>
        refine .block ?_
        cases hx : run P Φ f b s with
        | none => simp [hx] at h
        | some p =>
          obtain ⟨e1, s1⟩ := p
          refine (ih f (by omega) b s s1 e1 hx).mono ?_
          rintro e2 s2 ⟨rfl, rfl⟩
          rw [hx] at h
          cases e2 with
          | exit id' =>
            simp only [inBlock] at h ⊢
            split at h
            · rename_i he; rw [if_pos he]; cases h; exact ⟨rfl, rfl⟩
            · rename_i he; rw [if_neg he]; cases h; exact ⟨rfl, rfl⟩
          | _ => simp at h; exact ⟨h.1, h.2⟩
      case loop b =>
        refine .loop (fun m s1 => m ≤ f + 1 ∧ run P Φ m (.loop b) s1 = some (e, s')) (m := f + 1) ⟨Nat.le_refl _, by simp only [run]; exact h⟩ ?_
        rintro m s1 ⟨hm, h1⟩
        cases m with
        | zero => simp [run] at h1
        | succ m =>
          simp only [run] at h1
          cases hx : run P Φ m b s1 with
          | none => simp [hx] at h1
          | some p =>
            obtain ⟨e1, s2⟩ := p
            refine (ih m (by omega) b s1 s2 e1 hx).mono ?_
            rintro e2 s3 ⟨rfl, rfl⟩
            rw [hx] at h1
            cases e2 with
            | normal => exact ⟨m, s3, by omega, ⟨by omega, h1⟩, Le.refl _⟩
            | _ => simp at h1; exact ⟨h1.1, h1.2⟩
      all_goals cases h

/-- A function is entered by a call of it. -/
def enters (P : Program) (f : FuncId) : Bool := match P.funcs[f]? with
  | some fn => fn.body.isSome && fn.name != "runtime.NumGoroutine"
  | none => false

theorem enters_run {f : FuncId} (h : enters P f = true) (args : Array Value) (w : World) : (callFunc f args).run P w = .ok (.enter f args) w := by
  unfold enters at h
  split at h
  · rename_i fn hf
    simp only [Bool.and_eq_true, bne_iff_ne, ne_eq] at h
    obtain ⟨c, hc⟩ := Option.isSome_iff_exists.1 h.1
    simp [callFunc, program, Sem.run, hf, h.2, hc]
  · cases h

/-- What running a function gives. -/
def runFn (P : Program) (Φ : Specs) (fuel : Nat) (f : FuncId) (xs : List V) : Option V := match P.funcs[f]? with
  | some fn => match fn.body with
    | some c => if xs.length ≤ fn.ntmps then match run P Φ fuel c ⟨xs, []⟩ with
        | some (.normal, s) => resV P fn s
        | some (.ret, s) => resV P fn s
        | _ => none
      else none
    | none => none
  | none => none

def fnOk (P : Program) (f : FuncId) : Bool := enters P f && match P.funcs[f]? with
  | some fn => match fn.body with
    | some c => okCode fn.ntmps c
    | none => false
  | none => false

theorem runFn_contract {Φ : Specs} (hg : Good P Φ) {f : FuncId} (hok : fnOk P f = true) (fuel : Nat) : Contract P f (runFn P Φ fuel f) := by
  unfold fnOk at hok
  simp only [Bool.and_eq_true] at hok
  obtain ⟨_, hok⟩ := hok
  split at hok
  · rename_i fn hf
    split at hok
    · rename_i c hc
      refine contract_of hf hc hok (fun xs r h => ?_) (fun C xs r h => ?_)
      · simp only [runFn, hf, hc] at h
        split at h
        · assumption
        · cases h
      · simp only [runFn, hf, hc] at h
        split at h
        · split at h
          · rename_i s hr
            exact (run_sound hg fuel c ⟨xs, []⟩ s .normal hr).mono fun e s' he => by obtain ⟨rfl, rfl⟩ := he; exact ⟨.inl rfl, h⟩
          · rename_i s hr
            exact (run_sound hg fuel c ⟨xs, []⟩ s .ret hr).mono fun e s' he => by obtain ⟨rfl, rfl⟩ := he; exact ⟨.inr rfl, h⟩
          · cases h
        · cases h
    · cases hok
  · cases hok

/-- The functions of a list are run; the others go by what is given. -/
def Runs (P : Program) (L : List FuncId) (Φ : Specs) (fuel : Nat) : Nat → Specs
  | 0 => Φ
  | k + 1 => fun f => match Φ f with
    | some F => some F
    | none => if L.contains f then some (runFn P (Runs P L Φ fuel k) fuel f) else none

theorem Runs_good {L : List FuncId} {Φ : Specs} (hg : Good P Φ) (hL : L.all (fnOk P) = true) (fuel : Nat) : ∀ k, Good P (Runs P L Φ fuel k)
  | 0 => hg
  | k + 1 => ⟨fun f F hF => by
    simp only [Runs] at hF
    split at hF
    · rename_i F' hF'; cases hF; exact hg.met f F hF'
    · split at hF
      · rename_i hc
        cases hF
        have hok := (List.all_eq_true.1 hL) f (by simpa using hc)
        refine ⟨f, fun args w => enters_run ?_ args w, runFn_contract (Runs_good hg hL fuel k) hok fuel⟩
        unfold fnOk at hok
        simp only [Bool.and_eq_true] at hok
        exact hok.1
      · simp at hF, hg.orders⟩

theorem good_none (h : P.follows .mixedOrders = true) : Good P (fun _ => none) := ⟨fun _ _ h => by simp at h, h⟩

end Go.Idl
