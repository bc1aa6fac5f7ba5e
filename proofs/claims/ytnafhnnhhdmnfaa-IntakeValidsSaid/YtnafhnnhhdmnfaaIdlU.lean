/-
  The walk over ideal states, as one proposition to be simplified; states with functions.
-/
import Derived.Test.YtnafhnnhhdmnfaaIdlT
namespace Go.Idl
set_option linter.all false
open Go.RowKit

structure SF where
  τ : Nat → V
  H : Nat → Obj
  n : Nat

def SimF (C : Ctx) (s : SF) (a : Act) (w : World) : Prop := ∃ γ I, Sim C γ I s.τ s.H a.tmps w

/-- Only these slots are known on. -/
def prune (K : List Nat) (τ : Nat → V) : Nat → V := fun t => if K.contains t then τ t else .any

theorem prune_upd (K : List Nat) (τ : Nat → V) (d : Nat) (v : V) : prune K (updT τ d v) = if K.contains d = true then updT (prune K τ) d v else prune K τ := by
  funext t
  unfold prune updT
  cases hd : K.contains d with
  | true =>
    simp only [if_true]
    by_cases e : t = d
    · subst e; simp only [hd, if_true]
    · simp only [if_neg e]
  | false =>
    simp only [Bool.false_eq_true, if_false]
    by_cases e : t = d
    · subst e; simp only [hd, Bool.false_eq_true, if_false]
    · simp only [if_neg e]
theorem prune_prune (K : List Nat) (τ : Nat → V) : prune K (prune K τ) = prune K τ := by
  funext t
  unfold prune
  cases h : K.contains t <;> simp

def bump (n : Nat) : List (Nat × Obj) → Nat
  | [] => n
  | _ => n + 1

/-- A call that is walked into: whoever stands so, and whatever stands for the arguments, it returns, and what is said holds; the frame that calls stands on. -/
def CallT (P : Program) (C : Ctx) (f : FuncId) (vs : List V) (s : SF) (K : V → SF → Prop) : Prop :=
  enters P f = true ∧ ∀ (tm : Array Value) (w : World) (γ : Places) (I : Imm) (args : Array Value), Sim C γ I s.τ s.H tm w → vs.length = args.size →
    (∀ (j : Nat) (x : V) (u : Value), vs[j]? = some x → args[j]? = some u → Rep I w γ x u) →
    Calls P f args w fun e w' => ∃ u v s', e = .returned u ∧ K v s' ∧ ∃ γ' I', Sim C γ' I' s.τ s'.H tm w' ∧ Rep I' w' γ' v u
theorem CallT.mono {P : Program} {C : Ctx} {f : FuncId} {vs : List V} {s : SF} {K K' : V → SF → Prop} (h : CallT P C f vs s K) (hk : ∀ v s', K v s' → K' v s') : CallT P C f vs s K' :=
  ⟨h.1, fun tm w γ I args h1 h2 h3 => (h.2 tm w γ I args h1 h2 h3).mono fun _ _ ⟨u, v, s', e1, e2, e3⟩ => ⟨u, v, s', e1, hk v s' e2, e3⟩⟩
/-- A function value: which function, with which arguments ahead of and behind its own. -/
def fnOf : V → Option (FuncId × List V × List V)
  | .sc (.func (.func f) a b) => if a.size = 0 ∧ b.size = 0 then some (f, [], []) else none
  | .fn (.func f) xs ys => some (f, xs, ys)
  | _ => none
def inlV (P : Program) (C : Ctx) (vs : List V) (s : SF) (K : V → SF → Prop) (x : V) : Prop := match fnOf x with
  | some (f, xs, ys) => CallT P C f (xs ++ vs ++ ys) s K
  | none => False
def lean (o : Oper) : Oper := { dst := none, op := o.op, type := o.type, pos := "", after := #[], guard := none }
theorem lean_exec (ρ : Operand → Value) (o : Oper) : execOp ρ (lean o) = execOp ρ o := rfl
/-- An operation that a rule of its own is for: whoever stands so, it yields a value, and what is said holds. -/
def OpT (P : Program) (C : Ctx) (o : Oper) (s : SF) (K : V → SF → Prop) : Prop :=
  ∀ (tm : Array Value) (ds : List Deferred) (w : World) (γ : Places) (I : Imm), Sim C γ I s.τ s.H tm w →
    (∃ u w' v s' γ' I', (execOp (Act.eval ⟨tm, ds⟩) o).run P w = .ok (.value u) w' ∧ K v s' ∧ Sim C γ' I' s.τ s'.H tm w' ∧ Rep I' w' γ' v u) ∨
    (∃ w' s' γ' I', (execOp (Act.eval ⟨tm, ds⟩) o).run P w = .ok .skip w' ∧ K .any s' ∧ Sim C γ' I' s.τ s'.H tm w')
theorem OpT.mono {P : Program} {C : Ctx} {o : Oper} {s : SF} {K K' : V → SF → Prop} (h : OpT P C o s K) (hk : ∀ v s', K v s' → K' v s') : OpT P C o s K' := fun tm ds w γ I hS => by
  rcases h tm ds w γ I hS with ⟨u, w', v, s', γ', I', h1, h2, h3⟩ | ⟨w', s', γ', I', h1, h2, h3⟩
  · exact .inl ⟨u, w', v, s', γ', I', h1, hk _ _ h2, h3⟩
  · exact .inr ⟨w', s', γ', I', h1, hk _ _ h2, h3⟩
def inlO (P : Program) (C : Ctx) (ρ : Operand → V) (o : Oper) (s : SF) (K : V → SF → Prop) : Prop := match o.op with
  | .call c => match c.callee with
    | .value x => inlV P C (c.args.toList.map ρ) s K (ρ x)
    | .builtin _ => OpT P C (lean o) s K
    | _ => False
  | _ => OpT P C (lean o) s K

/-- One region, in the order of the text, handing on. -/
def wpSeq (P : Program) (Φ : Specs) (C : Ctx) (ops : Array Oper) (Q : SF → Prop) : List Oper → SF → Prop
  | [], s => Q s
  | o :: rest, s => match wantV s.τ ops o with
    | some b => (b = true → (match ev P Φ s.n (opd s.τ) s.H o with
        | some (v, δ) => wpSeq P Φ C ops Q rest ⟨putF s.τ o.dst v, putH s.H δ, bump s.n δ⟩
        | none => False) ∨ inlO P C (opd s.τ) o s fun v s' => wpSeq P Φ C ops Q rest ⟨putF s.τ o.dst v, s'.H, s'.n⟩) ∧
      (b = false → wpSeq P Φ C ops Q rest ⟨putF s.τ o.dst (.sc undef), s.H, s.n⟩)
    | none => False

/-- Ops from i on come one after the other. -/
def fullFrom (bef : List Nat) (i : Nat) : Bool := (List.range bef.length).all fun j => decide (j < i) || bef.getD j 0 == 2 ^ j - 1

/-- One region whose order is drawn: what each operation reads and writes is gathered. -/
def wpDraw (P : Program) (Φ : Specs) (C : Ctx) (ops : Array Oper) (n0 : Nat) (Q : SF → Prop) : List Oper → Nat → List Rec → SF → Prop
  | [], i, acc, s => apartAll (befs ops.toList []) acc.reverse = true ∧ Q ⟨s.τ, s.H, n0 + i⟩
  | o :: rest, i, acc, s => match wantV s.τ ops o with
    | some b => (b = true → (match ev P Φ (n0 + i) (opd s.τ) s.H o with
        | some (v, δ) => wpDraw P Φ C ops n0 Q rest (i + 1) (⟨.any, δ.map fun p => (p.1, .dead), need (n0 + i) (opd s.τ) o⟩ :: acc) ⟨putF s.τ o.dst v, putH s.H δ, s.n⟩
        | none => False) ∨ (fullFrom (befs ops.toList []) i = true ∧ apartAll (befs ops.toList []) acc.reverse = true ∧ inlO P C (opd s.τ) o ⟨s.τ, s.H, n0 + i⟩ fun v s' => wpSeq P Φ C ops Q rest ⟨putF s.τ o.dst v, s'.H, s'.n⟩)) ∧
      (b = false → wpDraw P Φ C ops n0 Q rest (i + 1) (⟨.any, [], []⟩ :: acc) ⟨putF s.τ o.dst (.sc undef), s.H, s.n⟩)
    | none => False

def TriF (P : Program) (C : Ctx) (n : Nat) (c : Code) (s : SF) (Q : Exit → SF → Prop) : Prop :=
  okCode n c = true → ∀ a w, a.tmps.size = n → a.defers = [] → SimF C s a w →
    c.wp P (fun e a' w' => a'.tmps.size = n ∧ a'.defers = [] ∧ ∃ s', Q e s' ∧ SimF C s' a' w') a w

def LeF (C : Ctx) (s s' : SF) : Prop := ∀ a w, SimF C s a w → SimF C s' a w
theorem LeF.refl {C : Ctx} (s : SF) : LeF C s s := fun _ _ h => h
theorem LeF.trans {C : Ctx} {s s' s'' : SF} (h : LeF C s s') (h' : LeF C s' s'') : LeF C s s'' := fun a w hh => h' a w (h a w hh)
/-- Slots may be forgotten. -/
theorem LeF.forget {C : Ctx} {s s' : SF} (hH : s'.H = s.H) (h : ∀ t, s'.τ t = .any ∨ s'.τ t = s.τ t) : LeF C s s' := by
  rintro a w ⟨γ, I, hS⟩
  refine ⟨γ, I, ?_⟩
  rw [hH]
  exact hS.forget h
theorem LeF.prune {C : Ctx} (K : List Nat) (s : SF) : LeF C s ⟨Idl.prune K s.τ, s.H, s.n⟩ := .forget rfl fun t => by
  unfold Idl.prune
  dsimp only
  split
  · exact .inr rfl
  · exact .inl rfl

variable {P : Program} {C : Ctx} {n : Nat} {s : SF} {Q : Exit → SF → Prop}

theorem TriF.mono {c : Code} {Q' : Exit → SF → Prop} (h : TriF P C n c s Q) (hq : ∀ e s, Q e s → Q' e s) : TriF P C n c s Q' :=
  fun hok a w hn hd hS => wp_mono (h hok a w hn hd hS) fun e a' w' ⟨h1, h2, s', h3, h4⟩ => ⟨h1, h2, s', hq _ _ h3, h4⟩
theorem TriF.weaken {c : Code} {s' : SF} (hl : LeF C s s') (h : TriF P C n c s' Q) : TriF P C n c s Q :=
  fun hok a w hn hd hS => h hok a w hn hd (hl a w hS)

/-- What a call that is walked into comes to. -/
theorem inlO_sound {τ : Nat → V} {H : Heap} {γ : Places} {I : Imm} {a : Act} {w : World} {o : Oper} {m : Nat} (hS : Sim C γ I τ H a.tmps w) {K0 : V → SF → Prop} (h : inlO P C (opd τ) o ⟨τ, H, m⟩ K0) (K : Act → World → Prop) (Q : Exit → Act → World → Prop)
    (hK : ∀ u w' γ' I' v s', K0 v s' → Sim C γ' I' τ s'.H a.tmps w' → Rep I' w' γ' v u → K (a.put o.dst u) w') : o.wp P a w K Q := by
  have byOp : OpT P C (lean o) ⟨τ, H, m⟩ K0 → o.wp P a w K Q := fun h => by
    have h := h a.tmps a.defers w γ I hS
    rw [lean_exec] at h
    unfold Oper.wp
    rcases h with ⟨u, w', v, s', γ', I', h1, h2, h3, h4⟩ | ⟨w', s', γ', I', h1, h2, h3⟩
    · rw [show (execOp a.eval o).run P w = _ from h1]
      exact hK u w' γ' I' v s' h2 h3 h4
    · rw [show (execOp a.eval o).run P w = _ from h1]
      exact hK _ w' γ' I' .any s' h2 h3 (.any _ _)
  unfold inlO at h
  split at h
  · rename_i c ho
    split at h
    · rename_i x hc
      unfold inlV at h
      split at h
      · rename_i f xs ys hf
        obtain ⟨hent, h⟩ := h
        have hx : Rep I w γ (opd τ x) (a.eval x) := hS.opd a.defers x
        -- the value called
        have key : ∃ us vs : Array Value, a.eval x = .func (.func f) us vs ∧ xs.length = us.size ∧ ys.length = vs.size ∧ (∀ (j : Nat) (x : V) (u : Value), xs[j]? = some x → us[j]? = some u → Rep I w γ x u) ∧ (∀ (j : Nat) (x : V) (u : Value), ys[j]? = some x → vs[j]? = some u → Rep I w γ x u) := by
          generalize a.eval x = ux at hx ⊢
          unfold fnOf at hf
          split at hf
          · rename_i f' us vs hv
            rw [hv] at hx
            split at hf
            · rename_i hz
              cases hf
              have hu : us = #[] := Array.eq_empty_of_size_eq_zero hz.1
              have hv' : vs = #[] := Array.eq_empty_of_size_eq_zero hz.2
              subst hu hv'
              exact ⟨#[], #[], hx.sc_eq, rfl, rfl, by simp, by simp⟩
            · cases hf
          · rename_i f' xs' ys' hv
            rw [hv] at hx
            cases hf
            cases hx with
            | fn _ _ _ _ us vs e1 e2 e3 e4 => exact ⟨us, vs, rfl, e1, e2, e3, e4⟩
          · cases hf
        obtain ⟨us, vs, hev, l1, l2, r1, r2⟩ := key
        have hrun : (execOp a.eval o).run P w = .ok (.enter f (us ++ c.args.map a.eval ++ vs)) w := by
          simp [execOp, ho, resolve, hc, hev, Deferred.ofValue, invoke, enters_run hent]
        unfold Oper.wp
        rw [hrun]
        have hrep : ∀ (j : Nat) (x : V) (u : Value), (xs ++ c.args.toList.map (opd τ) ++ ys)[j]? = some x → (us ++ c.args.map a.eval ++ vs)[j]? = some u → Rep I w γ x u := by
          intro j y u hy hu
          rw [← Array.getElem?_toList] at hu
          simp only [Array.toList_append, Array.toList_map] at hu
          have hl1 : xs.length = us.toList.length := by simpa using l1
          by_cases c1 : j < xs.length
          · rw [List.append_assoc, List.getElem?_append_left c1] at hy
            rw [List.append_assoc, List.getElem?_append_left (by omega)] at hu
            exact r1 j y u hy (by simpa using hu)
          · rw [List.append_assoc, List.getElem?_append_right (by omega)] at hy hu
            rw [← hl1] at hu
            by_cases c2 : j - xs.length < c.args.toList.length
            · rw [List.getElem?_append_left (by simpa using c2)] at hy hu
              simp at hy hu
              obtain ⟨q, hq, rfl⟩ := hy
              obtain ⟨q', hq', rfl⟩ := hu
              rw [hq] at hq'
              cases hq'
              exact hS.opd a.defers q
            · rw [List.getElem?_append_right (by simp at c2 ⊢; omega)] at hy hu
              simp only [List.length_map] at hy hu
              exact r2 _ y u hy (by simpa using hu)
        refine (h a.tmps w γ I (us ++ c.args.map a.eval ++ vs) hS (by simp; omega) hrep).mono fun e w' hh => ?_
        obtain ⟨u, v, s', rfl, hk, γ', I', hS', hr⟩ := hh
        exact hK u w' γ' I' v s' hk hS' hr
      · exact h.elim
    · exact byOp h
    · exact h.elim
  · exact byOp h

theorem wpSeq_sound {Φ : Specs} (hΦ : Met P Φ) {ops : Array Oper} {ds : List Deferred} {R : SF → Prop} {Q : Exit → Act → World → Prop} : ∀ (l : List Oper) (s : SF) (a : Act) (w : World), l.all (dstOk n) = true → a.tmps.size = n → a.defers = ds →
    SimF C s a w → wpSeq P Φ C ops R l s → (∀ a' w' s', a'.tmps.size = n → a'.defers = ds → R s' → SimF C s' a' w' → Q .normal a' w') → wpList P ops Q l a w
  | [], s, a, w, _, hn, hds, hS, h, hQ => hQ a w s hn hds h hS
  | o :: rest, s, a, w, hok, hn, hds, hS, h, hQ => by
    obtain ⟨γ, I, hS⟩ := hS
    simp only [List.all_cons, Bool.and_eq_true] at hok
    simp only [wpSeq] at h
    refine wpList_step fun K hK => ?_
    split at h
    · rename_i b hw
      cases b with
      | true =>
        have h := h.1 rfl
        rw [if_pos (wantV_sound hS hw)]
        rcases h with h | h
        · split at h
          · rename_i v δ hev
            refine ev_sound hΦ hS hev K Q fun u w' γ' I' hS' hr => hK _ _ ?_
            obtain ⟨h1, h2, h3⟩ := sim_putF hS' hr (by rw [hn]; exact hok.1)
            exact wpSeq_sound hΦ rest _ _ w' hok.2 (h2.trans hn) (h3.trans hds) ⟨γ', I', h1⟩ h hQ
          · exact h.elim
        · refine inlO_sound hS h K Q fun u w' γ' I' v s' hk hS' hr => hK _ _ ?_
          obtain ⟨h1, h2, h3⟩ := sim_putF hS' hr (by rw [hn]; exact hok.1)
          exact wpSeq_sound hΦ rest _ _ w' hok.2 (h2.trans hn) (h3.trans hds) ⟨γ', I', h1⟩ hk hQ
      | false =>
        have h := h.2 rfl
        rw [if_neg (by rw [wantV_sound hS hw]; simp)]
        obtain ⟨h1, h2, h3⟩ := sim_putF hS (Rep.sc (I := I) (w := w) γ undef) (by rw [hn]; exact hok.1)
        exact hK _ _ (wpSeq_sound hΦ rest _ _ w hok.2 (h2.trans hn) (h3.trans hds) ⟨γ, I, h1⟩ h hQ)
    · exact h.elim

theorem wpSeq_step {Φ : Specs} (hΦ : Met P Φ) {ops : Array Oper} {ds : List Deferred} {R : SF → Prop} {Q : Exit → Act → World → Prop} {o : Oper} {rest : List Oper} {s : SF} {a : Act} {w : World} {j : Nat} {K : Act → World → Prop} (ho : ops[j]? = some o) (hok : dstOk n o = true) (hn : a.tmps.size = n) (hds : a.defers = ds)
    (hS : SimF C s a w) (h : wpSeq P Φ C ops R (o :: rest) s) (hK : ∀ a' w' s', a'.tmps.size = n → a'.defers = ds → wpSeq P Φ C ops R rest s' → SimF C s' a' w' → K a' w') : wpOp P ops Q j K a w := by
  obtain ⟨γ, I, hS⟩ := hS
  simp only [wpSeq] at h
  unfold wpOp
  simp only [ho]
  split at h
  · rename_i b hw
    cases b with
    | true =>
      have h := h.1 rfl
      rw [if_pos (wantV_sound hS hw)]
      refine .inl ?_
      rcases h with h | h
      · split at h
        · rename_i v δ hev
          refine ev_sound hΦ hS hev K Q fun u w' γ' I' hS' hr => ?_
          obtain ⟨h1, h2, h3⟩ := sim_putF hS' hr (by rw [hn]; exact hok)
          exact hK _ _ _ (h2.trans hn) (h3.trans hds) h ⟨γ', I', h1⟩
        · exact h.elim
      · refine inlO_sound hS h K Q fun u w' γ' I' v s' hk hS' hr => ?_
        obtain ⟨h1, h2, h3⟩ := sim_putF hS' hr (by rw [hn]; exact hok)
        exact hK _ _ _ (h2.trans hn) (h3.trans hds) hk ⟨γ', I', h1⟩
    | false =>
      have h := h.2 rfl
      rw [if_neg (by rw [wantV_sound hS hw]; simp)]
      obtain ⟨h1, h2, h3⟩ := sim_putF hS (Rep.sc (I := I) (w := w) γ undef) (by rw [hn]; exact hok)
      exact hK _ _ _ (h2.trans hn) (h3.trans hds) h ⟨γ, I, h1⟩
  · exact h.elim

theorem befs_len : ∀ (l : List Oper) (acc : List Nat), (befs l acc).length = acc.length + l.length
  | [], acc => by simp [befs]
  | o :: r, acc => by simp only [befs]; rw [befs_len r]; simp; omega

theorem split_sound {Φ : Specs} (hΦ : Met P Φ) (hm : P.follows .mixedOrders = true) {ops : Array Oper} {id n0 kk : Nat} {ds : List Deferred} {R' : SF → Prop} {Q : Exit → Act → World → Prop} {τ τ' : Nat → V} {H H' : Heap} {recs : List Rec} {a : Act} {w : World}
    (hok : ops.toList.all (dstOk n) = true) (hdr : drawOk ops = true) (hn : a.tmps.size = n) (hds : a.defers = ds) (hS : ∃ γ I, Sim C γ I τ H a.tmps w) (hkk : kk ≤ ops.size)
    (htr : trace P Φ ops n0 (ops.toList.take kk) 0 τ H = some (recs, τ', H')) (hap : apartAll (befs ops.toList []) recs = true) (hfull : kk < ops.size → fullFrom (befs ops.toList []) kk = true)
    (hrest : wpSeq P Φ C ops R' (ops.toList.drop kk) ⟨τ', H', n0 + kk⟩)
    (hQ : ∀ a' w' s', a'.tmps.size = n → a'.defers = ds → R' s' → SimF C s' a' w' → Q .normal a' w') : (Code.region id ops true).wp P Q a w := by
      obtain ⟨γ0, I0, hS⟩ := hS
      have hops : ∀ k o, (ops.toList.take kk)[k]? = some o → ops[0 + k]? = some o := fun k o h => by
        rw [List.getElem?_take] at h
        split at h
        · simpa using h
        · cases h
      obtain ⟨hrl, hfacts, hτe, hHe⟩ := trace_facts (P := P) (Φ := Φ) (ops := ops) (n0 := n0) (fun k => recs.getD k rec0) τ H (ops.toList.take kk) 0 τ H recs τ' H' hops
        (fun k r hr => by simp [List.getD_eq_getElem?_getD, hr]) rfl rfl htr
      have hlen : (ops.toList.take kk).length = kk := by simp; omega
      rw [hlen] at hrl hτe hHe
      simp only [Nat.zero_add] at hfacts hτe hHe
      generalize hR : (fun k => recs.getD k rec0) = R at hfacts hτe hHe
      -- the two checks, as facts on pairs
      have hpair : ∀ i j, i < j → j < kk → ((befs ops.toList []).getD j 0).testBit i = true ∨ clash (R i) (R j) = false := by
        intro i j hij hj
        simp only [apartAll, List.all_eq_true, List.mem_range] at hap
        have := hap j (by omega) i hij
        simp only [Bool.or_eq_true, Bool.not_eq_true'] at this
        rw [← hR]
        exact this
      have hstat : ∀ i j oi oj, i < j → ops[i]? = some oi → ops[j]? = some oj → ((befs ops.toList []).getD j 0).testBit i = true ∨ Oper.apart ops oi oj = true := by
        intro i j oi oj hij hi hj
        simp only [drawOk, List.all_eq_true, List.mem_range, Bool.and_eq_true, Bool.or_eq_true] at hdr
        have := (hdr j (Array.getElem?_eq_some_iff.1 hj).1).2 i hij
        simpa [Array.getD_eq_getD_getElem?, hi, hj] using this
      have hback : ∀ j oj, ops[j]? = some oj → ∀ e, e ∈ oj.after → Region.binds .any e = true → e.on < j := by
        intro j oj hj e he hb
        simp only [drawOk, List.all_eq_true, List.mem_range, Bool.and_eq_true] at hdr
        have := (hdr j (Array.getElem?_eq_some_iff.1 hj).1).1
        rw [Array.getD_eq_getD_getElem?, hj, Option.getD_some, Array.all_eq_true_iff_forall_mem] at this
        have := this e he
        simpa [hb] using this
      let S : Array Bool → Nat → Bool := fun listed k => listed.getD k false
      let Inv : Array Bool → Act → World → Prop := fun listed a w => a.tmps.size = n ∧ a.defers = ds ∧ Down ops (S listed) ∧
        (((∀ j, kk ≤ j → S listed j = false) ∧ ∃ γ I, Sim C γ I (curT R τ ops (S listed) ops.size) (curH R H (S listed) ops.size) a.tmps w) ∨
          ∃ j s', kk ≤ j ∧ j ≤ ops.size ∧ (∀ i, S listed i = decide (i < j)) ∧ wpSeq P Φ C ops R' (ops.toList.drop j) s' ∧ SimF C s' a w)
      have conv : ∀ (listed : Array Bool) (a' : Act) (w' : World), (∀ j, kk ≤ j → S listed j = false) → (∀ j, j < kk → S listed j = true) → (∃ γ I, Sim C γ I (curT R τ ops (S listed) ops.size) (curH R H (S listed) ops.size) a'.tmps w') →
          (∀ i, S listed i = decide (i < kk)) ∧ SimF C ⟨τ', H', n0 + kk⟩ a' w' := by
        rintro listed a' w' hlo hhi ⟨γ, I, h4⟩
        refine ⟨fun i => ?_, γ, I, ?_⟩
        · by_cases hi : i < kk
          · rw [hhi i hi]; simp [hi]
          · rw [hlo i (by omega)]; simp [hi]
        · dsimp only
          rw [hτe, hHe]
          have cutS : ∀ {X : Type} (wr : Nat → Nat → Option X) (s0 : Nat → X) (m x : Nat), kk ≤ m → cur wr s0 (S listed) m x = cur wr s0 (fun _ => true) kk x := by
            intro X wr s0 m x hm'
            rw [cur_cut wr s0 (i := kk) hm' fun k hk _ _ => hlo k hk]
            exact cur_congr wr s0 fun k hk _ => hhi k hk
          have e1 : curT R τ ops (S listed) ops.size = curT R τ ops (fun _ => true) kk := by
            funext t
            exact cutS _ _ _ _ hkk
          have e2 : curH R H (S listed) ops.size = curH R H (fun _ => true) kk := by
            funext t
            exact cutS _ _ _ _ hkk
          rw [← e1, ← e2]
          exact h4
      have hbit : ∀ i k, kk ≤ i → i < ops.size → k < i → ((befs ops.toList []).getD i 0).testBit k = true := by
        intro i k hi hlt hk
        have := hfull (by omega)
        simp only [fullFrom, List.all_eq_true, List.mem_range, Bool.or_eq_true, decide_eq_true_eq, beq_iff_eq] at this
        rcases this i (by rw [befs_len]; simpa using hlt) with h | h
        · omega
        · rw [h, Nat.testBit_two_pow_sub_one]; simpa using hk
      refine wp_region_any hm (wpAny_inv Inv ?_ ?_ ?_ ops.size _ a _ ?_ (by simp) (unl_new _ _ (Nat.le_refl _)))
      · -- all have come
        rintro listed a' w' ⟨h1, h2, _, h4⟩ hsz hall
        have hS1 : ∀ k, k < ops.size → S listed k = true := fun k hk => by
          have := hall k hk
          simp only [S]
          rw [Array.getD_eq_getD_getElem?] at this ⊢
          cases hh : listed[k]? with
          | none => rw [Array.getElem?_eq_none_iff] at hh; omega
          | some b => rw [hh] at this; simpa using this
        rcases h4 with ⟨h3, h4⟩ | ⟨j, s', j1, j2, j3, j4, j5⟩
        · have hke : kk = ops.size := by
            by_cases e : kk = ops.size
            · exact e
            · have := hS1 kk (by omega)
              rw [h3 kk (Nat.le_refl _)] at this
              cases this
          have := (conv listed a' w' h3 (fun j hj => hS1 j (by omega)) h4).2
          rw [hke, List.drop_eq_nil_of_le (by simp)] at hrest
          rw [hke] at this
          exact hQ a' w' _ h1 h2 hrest this
        · have hje : j = ops.size := by
            by_cases e : j = ops.size
            · exact e
            · have := hS1 j (by omega)
              rw [j3 j] at this
              simp at this
          rw [hje, List.drop_eq_nil_of_le (by simp)] at j4
          exact hQ a' w' s' h1 h2 j4 j5
      · -- somebody may come
        rintro listed a' w' _ hsz hr
        intro k
        induction k using Nat.strongRecOn with
        | _ k ih =>
          intro hk
          cases hh : listed.getD k true with
          | true => rfl
          | false =>
            exfalso
            have hmem : k ∈ Region.ready .any ops listed := by
              rw [mem_ready]
              refine ⟨hh, ops[k], by simp [hk], fun e he hb => ?_⟩
              have hlt := hback k ops[k] (by simp [hk]) e he hb
              have := ih e.on hlt (by omega)
              rw [Array.getD_eq_getD_getElem?] at this ⊢
              cases hh2 : listed[e.on]? with
              | none => rw [Array.getElem?_eq_none_iff] at hh2; omega
              | some b => rw [hh2] at this; simpa using this
            rw [hr] at hmem
            cases hmem
      · -- one comes
        rintro listed a' w' i ⟨h1, h2, hdown, hor⟩ hsz hi
        obtain ⟨h0, oi, hoi, hpre⟩ := mem_ready.1 hi
        have hilt : i < ops.size := (Array.getElem?_eq_some_iff.1 hoi).1
        have hsi : S listed i = false := by
          simp only [S]
          rw [Array.getD_eq_getD_getElem?] at h0 ⊢
          cases hh : listed[i]? with
          | none => simp
          | some b => rw [hh] at h0; simpa using h0
        have hpre' : ∀ o, ops[i]? = some o → ∀ e, e ∈ o.after → Region.binds .any e = true → S listed e.on = true := fun o ho e he hb => by
          rw [hoi] at ho
          cases ho
          exact hpre e he hb
        have hbefI : ∀ k, ((befs ops.toList []).getD i 0).testBit k = true → S listed k = true := fun k hk =>
          befs_down hdown ops.toList [] (by simp) (by simp) i k hk hpre'
        have hbefK : ∀ k, ((befs ops.toList []).getD k 0).testBit i = true → S listed k = true → False := fun k hk hs => by
          have := befs_down hdown ops.toList [] (by simp) (by simp) k i hk (fun o ho e he hb => hdown k o ho hs e he hb)
          rw [hsi] at this
          cases this
        have hdown' : Down ops (S (listed.setIfInBounds i true)) := by
          intro k ok hk hsk e he hb
          have keep : ∀ q, S listed q = true → S (listed.setIfInBounds i true) q = true := fun q hq => getD_set_true hq
          by_cases e' : k = i
          · subst e'
            exact keep _ (hpre' ok hk e he hb)
          · refine keep _ (hdown k ok hk ?_ e he hb)
            simp only [S] at hsk ⊢
            rw [getD_set_ne false (fun h => e' h.symm)] at hsk
            exact hsk
        have hset : ∀ k, S (listed.setIfInBounds i true) k = if k = i then true else S listed k := fun k => by
          simp only [S]
          by_cases e : k = i
          · subst e; simp [hsz, hilt]
          · rw [if_neg e, getD_set_ne false (fun h => e h.symm)]
        have hdi : dstOk a'.tmps.size oi = true := by
          rw [h1]
          rw [List.all_eq_true] at hok
          exact hok oi (by simpa using Array.mem_of_getElem? hoi)
        have suffix : (∃ j s', kk ≤ j ∧ j ≤ ops.size ∧ (∀ i, S listed i = decide (i < j)) ∧ wpSeq P Φ C ops R' (ops.toList.drop j) s' ∧ SimF C s' a' w') → wpOp P ops Q i (Inv (listed.setIfInBounds i true)) a' w' := by
          rintro ⟨j, s', j1, j2, j3, j4, j5⟩
          have hij : j ≤ i := by
            have := j3 i
            rw [hsi] at this
            simpa using this.symm
          have hji : i = j := by
            by_cases e : i = j
            · exact e
            · have := hbefI j (hbit i j (by omega) hilt (by omega))
              rw [j3 j] at this
              simp at this
          subst hji
          have hdr' : ops.toList.drop i = oi :: ops.toList.drop (i + 1) := by
            have hi2 : i < ops.toList.length := by simpa using hilt
            rw [List.drop_eq_getElem_cons hi2]
            congr 1
            have := (Array.getElem?_eq_some_iff.1 hoi).2
            simpa using this
          rw [hdr'] at j4
          refine wpSeq_step (n := n) (ds := ds) hΦ hoi (by rw [h1] at hdi; exact hdi) h1 h2 j5 j4 fun a2 w2 s2 k1 k2 k3 k4 => ⟨k1, k2, hdown', .inr ⟨i + 1, s2, by omega, by omega, fun q => ?_, k3, k4⟩⟩
          rw [hset, j3 q]
          by_cases e : q = i
          · subst e; simp
          · rw [if_neg e]
            by_cases e2 : q < i
            · simp [e2]; omega
            · simp [e2]; omega
        rcases hor with ⟨hlo, h4x⟩ | hsuf
        rotate_left
        · exact suffix hsuf
        by_cases hikk : i < kk
        rotate_left
        · have hik : i = kk := by
            by_cases e : i = kk
            · exact e
            · have := hbefI kk (hbit i kk (by omega) hilt (by omega))
              rw [hlo kk (Nat.le_refl _)] at this
              cases this
          have := conv listed a' w' hlo (fun j hj => hbefI j (hbit i j (by omega) hilt (by omega))) h4x
          exact suffix ⟨kk, _, Nat.le_refl _, hkk, this.1, hrest, this.2⟩
        obtain ⟨γ, I, h4⟩ := h4x
        -- the temporaries that it looks at
        have hlook : ∀ t, t ∈ oi.looksAt ops → curT R τ ops (S listed) ops.size t = curT R τ ops (fun _ => true) i t := by
          intro t ht
          refine cur_read _ _ (by omega) (fun k hk hki hw => ?_) hsi
          have ⟨ok, hok', hdk⟩ : ∃ ok, ops[k]? = some ok ∧ ok.dst = some t := by
            unfold wrT at hw
            cases hh : ops[k]? with
            | none => simp [hh] at hw
            | some ok =>
              refine ⟨ok, rfl, ?_⟩
              simp [hh] at hw
              exact hw
          refine ⟨fun hlt => ?_, fun hgt => ?_⟩
          · rcases hstat k i ok oi hlt hok' hoi with hb | hap'
            · exact hbefI k hb
            · exact absurd ht ((Oper.apart_spec hap').1 t hdk)
          · cases hsk : S listed k with
            | false => rfl
            | true =>
              exfalso
              rcases hstat i k oi ok hgt hoi hok' with hb | hap'
              · exact hbefK k hb hsk
              · exact absurd ht ((Oper.apart_spec hap').2.2 t hdk)
        have hopd : ∀ x ∈ oi.op.operands, opd (curT R τ ops (S listed) ops.size) x = opd (curT R τ ops (fun _ => true) i) x := by
          intro x hx
          cases x with
          | tmp t => exact hlook t (List.mem_append_left _ (List.mem_filterMap.2 ⟨.tmp t, by simpa using hx, rfl⟩))
          | _ => rfl
        have hwant : wantV (curT R τ ops (S listed) ops.size) ops oi = wantV (curT R τ ops (fun _ => true) i) ops oi := by
          unfold wantV
          cases hg : oi.guard with
          | none => rfl
          | some gw =>
            obtain ⟨g, want⟩ := gw
            dsimp only
            cases hd : (ops[g]?).bind (·.dst) with
            | none => rfl
            | some t =>
              dsimp only
              rw [hlook t (List.mem_append_right _ (by simp [hg, hd]))]
        -- what it writes is written last
        have hnewT : ∀ t, curT R τ ops (S (listed.setIfInBounds i true)) ops.size t = (wrT R ops i t).getD (curT R τ ops (S listed) ops.size t) := by
          intro t
          refine cur_write _ _ (S := S listed) (fun k => ?_) hilt (fun hwi k hik hk hwk => ?_) hsi
          · simp only [S]
            by_cases e : k = i
            · subst e; simp [hsz, hilt]
            · rw [if_neg e, getD_set_ne false (fun h => e h.symm)]
          · have ⟨ok, hok', hdk⟩ : ∃ ok, ops[k]? = some ok ∧ ok.dst = some t := by
              unfold wrT at hwk
              cases hh : ops[k]? with
              | none => simp [hh] at hwk
              | some ok => exact ⟨ok, rfl, by simpa [hh] using hwk⟩
            have hdi : oi.dst = some t := by
              unfold wrT at hwi
              simpa [hoi] using hwi
            cases hsk : S listed k with
            | false => rfl
            | true =>
              exfalso
              rcases hstat i k oi ok hik hoi hok' with hb | hap'
              · exact hbefK k hb hsk
              · exact (Oper.apart_spec hap').2.1 t hdi hdk
        have hnewH : ∀ x, curH R H (S (listed.setIfInBounds i true)) ops.size x = (wrH R i x).getD (curH R H (S listed) ops.size x) := by
          intro x
          refine cur_write _ _ (S := S listed) (fun k => ?_) hilt (fun hwi k hik hk hwk => ?_) hsi
          · simp only [S]
            by_cases e : k = i
            · subst e; simp [hsz, hilt]
            · rw [if_neg e, getD_set_ne false (fun h => e h.symm)]
          · obtain ⟨y, hy⟩ := lastOf_mem hwi
            obtain ⟨z, hz⟩ := lastOf_mem hwk
            cases hsk : S listed k with
            | false => rfl
            | true =>
              exfalso
              have hkk2 : k < kk := by
                by_cases e : k < kk
                · exact e
                · rw [hlo k (by omega)] at hsk; cases hsk
              rcases hpair i k hik hkk2 with hb | hc
              · exact hbefK k hb hsk
              · simp only [clash, Bool.or_eq_false_iff, List.any_eq_false] at hc
                have := hc.1 _ hy
                simp only [Bool.or_eq_true, not_or, List.any_eq_true, not_exists, not_and] at this
                exact this.2 _ hz (by simp)
        have hlo' : ∀ j, kk ≤ j → S (listed.setIfInBounds i true) j = false := fun j hj => by
          rw [hset, if_neg (by omega), hlo j hj]
        -- the new state
        have fin : ∀ {u : Value} {w'' : World} {γ' : Places} {I' : Imm}, Sim C γ' I' (curT R τ ops (S listed) ops.size) (putH (curH R H (S listed) ops.size) (R i).δ) a'.tmps w'' → Rep I' w'' γ' (R i).v u →
            Inv (listed.setIfInBounds i true) (a'.put oi.dst u) w'' := by
          intro u w'' γ' I' hsim hrep
          have eH : putH (curH R H (S listed) ops.size) (R i).δ = curH R H (S (listed.setIfInBounds i true)) ops.size := by
            funext x
            rw [putH_last, hnewH]
            rfl
          rw [eH] at hsim
          unfold dstOk at hdi
          cases hd : oi.dst with
          | none =>
            refine ⟨h1, h2, hdown', .inl ⟨hlo', γ', I', ?_⟩⟩
            have eT : curT R τ ops (S (listed.setIfInBounds i true)) ops.size = curT R τ ops (S listed) ops.size := by
              funext t
              rw [hnewT]
              simp [wrT, hoi, hd]
            rw [eT]
            exact hsim
          | some d =>
            rw [hd] at hdi
            simp only [decide_eq_true_eq] at hdi
            refine ⟨by simp [Act.put, h1], h2, hdown', .inl ⟨hlo', γ', I', ?_⟩⟩
            have eT : curT R τ ops (S (listed.setIfInBounds i true)) ops.size = updT (curT R τ ops (S listed) ops.size) d (R i).v := by
              funext t
              rw [hnewT]
              simp only [wrT, hoi, hd, Option.bind_some, Option.some.injEq, updT]
              by_cases e : t = d
              · subst e; simp
              · rw [if_neg e, if_neg (fun h => e h.symm)]; rfl
            rw [eT]
            exact hsim.put hrep hdi
        unfold wpOp
        simp only [hoi]
        rcases hfacts i oi (by rw [List.getElem?_take_of_lt hikk]; simpa using hoi) with ⟨hw, hev, hrd⟩ | ⟨hw, hv, hδ⟩
        · rw [← hwant] at hw
          rw [if_pos (wantV_sound h4 hw)]
          refine .inl ?_
          have hneed := (evOp_congr (P := P) (Φ := Φ) (nid := n0 + i) (h := fun _ => .dead) oi hopd).2
          have hev' : ev P Φ (n0 + i) (opd (curT R τ ops (S listed) ops.size)) (curH R H (S listed) ops.size) oi = some ((R i).v, (R i).δ) := by
            rw [← hev]
            unfold ev
            have eO : only (need (n0 + i) (opd (curT R τ ops (S listed) ops.size)) oi) (curH R H (S listed) ops.size) =
                only (need (n0 + i) (opd (curT R τ ops (fun _ => true) i)) oi) (curH R H (fun _ => true) i) := by
              funext x
              rw [hneed]
              unfold only
              split
              · rename_i hx
                refine cur_read _ _ (by omega) (fun k hk hki hwk => ?_) hsi
                obtain ⟨z, hz⟩ := lastOf_mem hwk
                have hxr : x ∈ (R i).rd := by rw [hrd]; simpa using hx
                refine ⟨fun hlt => ?_, fun hgt => ?_⟩
                · rcases hpair k i hlt hikk with hb | hc
                  · exact hbefI k hb
                  · exfalso
                    simp only [clash, Bool.or_eq_false_iff, List.any_eq_false] at hc
                    have := hc.1 _ hz
                    simp only [Bool.or_eq_true, not_or] at this
                    exact this.1 (by simpa using hxr)
                · cases hsk : S listed k with
                  | false => rfl
                  | true =>
                    exfalso
                    have hkk2 : k < kk := by
                      by_cases e : k < kk
                      · exact e
                      · rw [hlo k (by omega)] at hsk; cases hsk
                    rcases hpair i k hgt hkk2 with hb | hc
                    · exact hbefK k hb hsk
                    · simp only [clash, Bool.or_eq_false_iff, List.any_eq_false] at hc
                      exact hc.2 _ hz (by simpa using hxr)
              · rfl
            rw [eO]
            exact (evOp_congr oi hopd).1
          exact ev_sound hΦ h4 hev' _ _ fun u w'' γ' I' hs' hr => fin hs' hr
        · rw [← hwant] at hw
          rw [if_neg (by rw [wantV_sound h4 hw]; simp)]
          refine fin (γ' := γ) (I' := I) ?_ ?_
          · rw [hδ]; exact h4
          · rw [hv]; exact .sc _ _
      · -- the start
        have hS0' : ∀ k, S (Array.replicate ops.size false) k = false := fun k => by
            simp only [S]
            rw [Array.getD_eq_getD_getElem?, Array.getElem?_replicate]
            split <;> rfl
        refine ⟨hn, hds, fun k o _ hs => ?_, .inl ⟨fun j _ => hS0' j, γ0, I0, ?_⟩⟩
        · simp only [S] at hs
          rw [Array.getD_eq_getD_getElem?] at hs
          cases hh : (Array.replicate ops.size false)[k]? with
          | none => rw [hh] at hs; simp at hs
          | some b =>
            rw [hh] at hs
            simp [Array.getElem?_replicate] at hh
            simp at hs
            rw [hh.2] at hs
            cases hs
        · have hS0 : ∀ k, S (Array.replicate ops.size false) k = false := fun k => by
            simp only [S]
            rw [Array.getD_eq_getD_getElem?, Array.getElem?_replicate]
            split <;> rfl
          have e1 : curT R τ ops (S (Array.replicate ops.size false)) ops.size = τ := by
            funext t
            exact cur_cut _ _ (i := 0) (by omega) fun k _ _ _ => hS0 k
          have e2 : curH R H (S (Array.replicate ops.size false)) ops.size = H := by
            funext t
            exact cur_cut _ _ (i := 0) (by omega) fun k _ _ _ => hS0 k
          rw [e1, e2]
          exact hS.drawn _


/-- The gathered records decide as the whole ones do. -/
def thin (r : Rec) : Rec := ⟨.any, r.δ.map fun p => (p.1, .dead), r.rd⟩
theorem clash_thin (x y : Rec) : clash (thin x) (thin y) = clash x y := by
  simp [clash, thin, Function.comp_def]
theorem apartAll_thin (bef : List Nat) (recs : List Rec) : apartAll bef (recs.map thin) = apartAll bef recs := by
  unfold apartAll
  have e : ∀ i, (recs.map thin).getD i rec0 = thin (recs.getD i rec0) := fun i => by
    simp only [List.getD_eq_getElem?_getD, List.getElem?_map]
    cases recs[i]? <;> simp [thin, rec0]
  simp only [List.length_map, e, clash_thin]

theorem wpDraw_trace {Φ : Specs} {ops : Array Oper} {n0 : Nat} {R : SF → Prop} : ∀ (l : List Oper) (i : Nat) (acc : List Rec) (s : SF), wpDraw P Φ C ops n0 R l i acc s →
    ∃ kk recs τ' H', kk ≤ l.length ∧ trace P Φ ops n0 (l.take kk) i s.τ s.H = some (recs, τ', H') ∧ apartAll (befs ops.toList []) (acc.reverse ++ recs.map thin) = true ∧ (kk < l.length → fullFrom (befs ops.toList []) (i + kk) = true) ∧ wpSeq P Φ C ops R (l.drop kk) ⟨τ', H', n0 + (i + kk)⟩
  | [], i, acc, s, h => ⟨0, [], s.τ, s.H, Nat.le_refl _, rfl, by simpa using h.1, fun h => by simp at h, by simpa [wpSeq] using h.2⟩
  | o :: rest, i, acc, s, h => by
    simp only [wpDraw] at h
    split at h
    · rename_i b hw
      cases b with
      | true =>
        rcases h.1 rfl with h | h
        · split at h
          rotate_left
          · exact h.elim
          rename_i v δ hev
          obtain ⟨kk, recs, τ', H', h0, h1, h2, h3, h4⟩ := wpDraw_trace rest (i + 1) _ _ h
          dsimp only at h1
          refine ⟨kk + 1, ⟨v, δ, need (n0 + i) (opd s.τ) o⟩ :: recs, τ', H', by simpa using h0, ?_, ?_, fun hk => ?_, ?_⟩
          · simp only [List.take_succ_cons, trace, hw, hev, h1]
          · simpa [thin] using h2
          · rw [show i + (kk + 1) = i + 1 + kk from by omega]; exact h3 (by simpa using hk)
          · rw [show i + (kk + 1) = i + 1 + kk from by omega]; exact h4
        · refine ⟨0, [], s.τ, s.H, Nat.zero_le _, rfl, by simpa using h.2.1, fun _ => by simpa using h.1, ?_⟩
          simp only [List.drop_zero, wpSeq, hw, Nat.add_zero]
          exact ⟨fun _ => .inr h.2.2, fun e => by cases e⟩
      | false =>
        have h := h.2 rfl
        obtain ⟨kk, recs, τ', H', h0, h1, h2, h3, h4⟩ := wpDraw_trace rest (i + 1) _ _ h
        dsimp only at h1
        refine ⟨kk + 1, ⟨.sc undef, [], []⟩ :: recs, τ', H', by simpa using h0, ?_, ?_, fun hk => ?_, ?_⟩
        · simp only [List.take_succ_cons, trace, hw, h1]
        · simpa [thin] using h2
        · rw [show i + (kk + 1) = i + 1 + kk from by omega]; exact h3 (by simpa using hk)
        · rw [show i + (kk + 1) = i + 1 + kk from by omega]; exact h4
    · exact h.elim

theorem TriF.regionS {Φ : Specs} (hg : Good P Φ) {id : Nat} {ops : Array Oper} (h : wpSeq P Φ C ops (Q .normal) ops.toList s) : TriF P C n (.region id ops false) s Q := by
  intro hok a w hn hd hS
  simp only [okCode, Bool.and_eq_true] at hok
  exact wp_region_list (wpSeq_sound hg.met _ _ _ _ hok.1 hn hd hS h fun a' w' s' h1 h2 h3 h4 => ⟨h1, h2, s', h3, h4⟩)

theorem TriF.regionD {Φ : Specs} (hg : Good P Φ) {id : Nat} {ops : Array Oper} (h : wpDraw P Φ C ops s.n (Q .normal) ops.toList 0 [] s) : TriF P C n (.region id ops true) s Q := by
  intro hok a w hn hd hS
  simp only [okCode, Bool.and_eq_true, Bool.or_eq_true, Bool.not_eq_true'] at hok
  have hdr : drawOk ops = true := hok.2.resolve_left (by simp)
  obtain ⟨kk, recs, τ', H', h0, h1, h2, h3, h4⟩ := wpDraw_trace _ _ _ _ h
  simp only [List.reverse_nil, List.nil_append, apartAll_thin, Nat.zero_add] at h2 h3 h4
  exact split_sound hg.met hg.orders hok.1 hdr hn hd hS (by simpa using h0) h1 h2 (by simpa using h3) h4 fun a' w' s' k1 k2 k3 k4 => ⟨k1, k2, s', k3, k4⟩

def andThenF (K : SF → Prop) (Q : Exit → SF → Prop) : Exit → SF → Prop
  | .normal, s => K s
  | e, s => Q e s
def inBlockF (id : Nat) (Q : Exit → SF → Prop) : Exit → SF → Prop
  | .exit id', s => if id' = id then Q .normal s else Q (.exit id') s
  | e, s => Q e s

theorem TriF.seq {x y : Code} (h : TriF P C n x s (andThenF (fun s' => TriF P C n y s' Q) Q)) : TriF P C n (.seq x y) s Q := by
  intro hok a w hn hd hS
  simp only [okCode, Bool.and_eq_true] at hok
  refine wp_seq (wp_mono (h hok.1 a w hn hd hS) ?_)
  rintro e a' w' ⟨h1, h2, s', h3, h4⟩
  cases e with
  | normal => exact h3 hok.2 a' w' h1 h2 h4
  | _ => exact ⟨h1, h2, s', h3, h4⟩

theorem TriF.cond {c : Operand} {x y : Code} {t : Bool} (hc : opd s.τ c = .sc (.bool t)) (h : TriF P C n (if t then x else y) s Q) : TriF P C n (.cond c x y) s Q := by
  intro hok a w hn hd hS
  simp only [okCode, Bool.and_eq_true] at hok
  obtain ⟨γ, I, hS'⟩ := hS
  have hr := hS'.opd a.defers c
  rw [hc] at hr
  refine wp_cond hr.sc_eq (h ?_ a w hn hd ⟨γ, I, hS'⟩)
  cases t
  · exact hok.2
  · exact hok.1

theorem TriF.block {id : Nat} {c : Code} (h : TriF P C n c s (inBlockF id Q)) : TriF P C n (.block id c) s Q := by
  intro hok a w hn hd hS
  refine wp_block (wp_mono (h hok a w hn hd hS) ?_)
  rintro e a' w' ⟨h1, h2, s', h3, h4⟩
  cases e with
  | exit id' =>
    simp only [Exit.inBlock, inBlockF] at h3 ⊢
    split at h3
    · rename_i e; rw [if_pos e]; exact ⟨h1, h2, s', h3, h4⟩
    · rename_i e; rw [if_neg e]; exact ⟨h1, h2, s', h3, h4⟩
  | _ => exact ⟨h1, h2, s', h3, h4⟩

/-- A LOOP: what holds at its head, with a number that every round lowers. -/
theorem TriF.loop {c : Code} (J : Nat → SF → Prop) {m : Nat} (h0 : ∃ s', LeF C s s' ∧ J m s') (round : ∀ m s, J m s → TriF P C n c s (andThenF (fun s' => ∃ k s'', k < m ∧ LeF C s' s'' ∧ J k s'') Q)) : TriF P C n (.loop c) s Q := by
  intro hok a w hn hd hS
  obtain ⟨s0, hle0, hJ0⟩ := h0
  refine wp_loop_idx (fun m a w => a.tmps.size = n ∧ a.defers = [] ∧ ∃ s, J m s ∧ SimF C s a w) (m := m) ⟨hn, hd, s0, hJ0, hle0 a w hS⟩ ?_
  rintro m a w ⟨h1, h2, s, hJ, hS⟩
  refine wp_mono (round m s hJ hok a w h1 h2 hS) ?_
  rintro e a' w' ⟨h3, h4, s', h5, h6⟩
  cases e with
  | normal =>
    obtain ⟨k, s'', hk, hle, hJ'⟩ := h5
    exact ⟨k, hk, h3, h4, s'', hJ', hle a' w' h6⟩
  | _ => exact ⟨h3, h4, s', h5, h6⟩

/-- THE WALK: all but loops is laid open. -/
def walk (P : Program) (Φ : Specs) (C : Ctx) (n : Nat) (K : List Nat) : Code → SF → (Exit → SF → Prop) → Prop
  | .skip, s, Q => Q .normal s
  | .label _, s, Q => Q .normal s
  | .region _ ops false, s, Q => wpSeq P Φ C ops (fun s' => Q .normal ⟨prune K s'.τ, s'.H, s'.n⟩) ops.toList s
  | .region _ ops true, s, Q => wpDraw P Φ C ops s.n (fun s' => Q .normal ⟨prune K s'.τ, s'.H, s'.n⟩) ops.toList 0 [] s
  | .seq x y, s, Q => walk P Φ C n K x s (andThenF (fun s' => walk P Φ C n K y s' Q) Q)
  | .cond c x y, s, Q => ∃ t, opd s.τ c = .sc (.bool t) ∧ (t = true → walk P Φ C n K x s Q) ∧ (t = false → walk P Φ C n K y s Q)
  | .block id b, s, Q => walk P Φ C n K b s (inBlockF id Q)
  | .exit id, s, Q => Q (.exit id) s
  | .ret, s, Q => Q .ret s
  | .loop b, s, Q => TriF P C n (.loop b) s Q
  | _, _, _ => False

theorem walk_sound {Φ : Specs} (hg : Good P Φ) {K : List Nat} : ∀ (c : Code) (s : SF) (Q : Exit → SF → Prop), walk P Φ C n K c s Q → TriF P C n c s Q
  | .skip, s, Q, h => fun _ _ _ hn hd hS => wp_skip ⟨hn, hd, s, h, hS⟩
  | .label _, s, Q, h => fun _ _ _ hn hd hS => wp_label ⟨hn, hd, s, h, hS⟩
  | .exit _, s, Q, h => fun _ _ _ hn hd hS => wp_exit ⟨hn, hd, s, h, hS⟩
  | .ret, s, Q, h => fun _ _ _ hn hd hS => wp_ret ⟨hn, hd, s, h, hS⟩
  | .region _ ops false, s, Q, h => fun hok a w hn hd hS => wp_mono (TriF.regionS (Q := fun e s' => e = .normal ∧ Q .normal ⟨prune K s'.τ, s'.H, s'.n⟩) hg (by
      have : (fun s' : SF => (Exit.normal = Exit.normal ∧ Q .normal ⟨prune K s'.τ, s'.H, s'.n⟩)) = fun s' => Q .normal ⟨prune K s'.τ, s'.H, s'.n⟩ := by funext s'; simp
      rw [this]; exact h) hok a w hn hd hS) fun e a' w' ⟨h1, h2, s', ⟨he, hq⟩, h4⟩ => by subst he; exact ⟨h1, h2, _, hq, LeF.prune K s' a' w' h4⟩
  | .region _ ops true, s, Q, h => fun hok a w hn hd hS => wp_mono (TriF.regionD (Q := fun e s' => e = .normal ∧ Q .normal ⟨prune K s'.τ, s'.H, s'.n⟩) hg (by
      have : (fun s' : SF => (Exit.normal = Exit.normal ∧ Q .normal ⟨prune K s'.τ, s'.H, s'.n⟩)) = fun s' => Q .normal ⟨prune K s'.τ, s'.H, s'.n⟩ := by funext s'; simp
      rw [this]; exact h) hok a w hn hd hS) fun e a' w' ⟨h1, h2, s', ⟨he, hq⟩, h4⟩ => by subst he; exact ⟨h1, h2, _, hq, LeF.prune K s' a' w' h4⟩
  | .seq x y, s, Q, h => .seq ((walk_sound hg x s _ h).mono fun e s' hh => by
      cases e with
      | normal => exact walk_sound hg y s' Q hh
      | _ => exact hh)
  | .cond c x y, s, Q, h => by
    obtain ⟨t, hc, h1, h2⟩ := h
    refine .cond hc ?_
    cases t with
    | true => exact walk_sound hg x s Q (h1 rfl)
    | false => exact walk_sound hg y s Q (h2 rfl)
  | .block id b, s, Q, h => .block (walk_sound hg b s _ h)
  | .loop b, s, Q, h => h
  | .rangeFunc .., _, _, h => h.elim
  | .scope _, _, _, h => h.elim
  | .goto _, _, _, h => h.elim
  | .refuse _, _, _, h => h.elim

/-! ### The end of a body -/
def resOneF (P : Program) (s : SF) : ResultVar → Option V
  | .tmp t => some (s.τ t)
  | .cell x t => evLoad P s.H t (s.τ x)
def resLF (P : Program) (s : SF) : List ResultVar → Option (List V)
  | [] => some []
  | r :: rs => match resOneF P s r, resLF P s rs with
    | some x, some xs => some (x :: xs)
    | _, _ => none
def resF (P : Program) (rs : List ResultVar) (s : SF) : Option V :=
  (resLF P s rs).bind fun xs => (freezesR s.H xs).map fun
    | [x] => x
    | ys => .tup ys

/-- The slots of the parameters. -/
def pars : List V → Nat → V
  | [], _ => .any
  | x :: _, 0 => x
  | _ :: xs, n + 1 => pars xs n


theorem pars_eq (l : List V) (t : Nat) : pars l t = (l[t]?).getD .any := by
  induction l generalizing t with
  | nil => simp [pars]
  | cons x l ih => cases t <;> simp [pars, ih]

theorem start_simF {args : Array Value} {xs : List V} {n : Nat} (hlen : xs.length = args.size) (hr : ∀ (j : Nat) (x : V) (u : Value), xs[j]? = some x → args[j]? = some u → Rep C.I0 C.w0 noPlaces x u)
    (hI : ∀ g x, C.I0 g x → g < C.w0.heap.size) (hk : C.keep = []) : SimF C ⟨pars xs, fun _ => .unborn, 0⟩ { tmps := args ++ Array.replicate n undef, defers := [] } C.w0 := by
  refine ⟨noPlaces, C.I0, {
    below := Below.refl _ _
    imm0 := fun _ _ h => h
    immB := fun _ _ h => .inl h
    immS := hI
    tmp := fun t => ?_
    kept := fun fr hf => by rw [hk] at hf; cases hf
    dom := by simp [noPlaces]
    obj := by simp
    ext := by simp
    inj := by simp [noPlaces] }⟩
  simp only [pars_eq]
  by_cases ht : t < args.size
  · have hx : xs[t]? = some xs[t] := List.getElem?_eq_getElem (by omega)
    have hu : args[t]? = some args[t] := by simp [ht]
    rw [hx, Option.getD_some]
    have := hr t _ _ hx hu
    simpa [Array.getElem?_append_left ht, hu] using this
  · rw [List.getElem?_eq_none (by omega)]
    exact .any _ _

theorem resLF_run {s : SF} {γ : Places} {I : Imm} {tm : Array Value} {w : World} (hS : Sim C γ I s.τ s.H tm w) : ∀ (rs : List ResultVar) (xs : List V), resLF P s rs = some xs →
    ∃ vs : List Value, (rs.mapM (resM tm)).run P w = .ok vs w ∧ xs.length = vs.length ∧ ∀ (j : Nat) (x : V) (u : Value), xs[j]? = some x → vs[j]? = some u → Rep I w γ x u
  | [], xs, h => by
    simp [resLF] at h
    subst h
    exact ⟨[], rfl, rfl, by simp⟩
  | r :: rs, xs, h => by
    simp only [resLF] at h
    split at h
    · rename_i x xs' h1 h2
      cases h
      obtain ⟨vs, hv1, hv2, hv3⟩ := resLF_run hS rs xs' h2
      have fin : ∀ {u : Value}, (resM tm r).run P w = .ok u w → Rep I w γ x u →
          ∃ vs : List Value, ((r :: rs).mapM (resM tm)).run P w = .ok vs w ∧ (x :: xs').length = vs.length ∧ ∀ (j : Nat) (x0 : V) (u : Value), (x :: xs')[j]? = some x0 → vs[j]? = some u → Rep I w γ x0 u := by
        intro u hu hr
        refine ⟨u :: vs, ?_, by simp [hv2], fun j x0 u0 hx hu0 => ?_⟩
        · rw [List.mapM_cons]
          simp only [Sem.run_bind, hu, hv1, Result.andThen_ok, Sem.run_pure]
        · cases j with
          | zero => simp at hx hu0; subst hx hu0; exact hr
          | succ j => exact hv3 j x0 u0 (by simpa using hx) (by simpa using hu0)
      cases r with
      | tmp t =>
        simp only [resOneF, Option.some.injEq] at h1
        subst h1
        exact fin (u := tm.getD t undef) rfl (hS.tmp t)
      | cell a t =>
        simp only [resOneF] at h1
        obtain ⟨g, y, u, hu, hl, hr⟩ := load_run hS h1 (hS.tmp a)
        refine fin (u := u) ?_ hr
        simp only [resM]
        rw [hu]
        simp [asAddr, hl]
    · cases h

theorem freezesR_get {h : Heap} : ∀ {xs ys : List V}, freezesR h xs = some ys → ys.length = xs.length ∧ ∀ (j : Nat) (y : V), ys[j]? = some y → ∃ x, xs[j]? = some x ∧ freezeR h x = some y
  | [], ys, h => by cases h; simp
  | x :: xs, ys, h => by
    simp only [freezesR] at h
    split at h
    · rename_i a l h1 h2
      cases h
      obtain ⟨e1, e2⟩ := freezesR_get h2
      refine ⟨by simp [e1], fun j z hz => ?_⟩
      cases j with
      | zero => simp at hz; subst hz; exact ⟨x, rfl, h1⟩
      | succ j => exact e2 j z (by simpa using hz)
    · cases h
theorem Rep.frozenF {I : Imm} {w : World} {γ : Places} {x : V} {u : Value} (h : Rep I w γ x u) (hf : x.isF = true) : Rep I w noPlaces x u := by
  cases x with
  | agg cs =>
    simp only [V.isF, List.all_eq_true] at hf
    cases h with
    | agg _ _ vs hlen hh => exact .agg _ _ _ hlen fun j c u hc hu => (hh j c u hc hu).frozen (hf c (List.mem_of_getElem? hc))
  | _ => exact h.frozen (by simpa [V.isF] using hf)
theorem resG_run {fn : Func} {s : SF} {r : V} {γ : Places} {I : Imm} {tm : Array Value} {w : World} (hS : Sim C γ I s.τ s.H tm w) (h : resF P fn.results.toList s = some r) :
    ∃ u I', (results fn tm).run P w = .ok u w ∧ Rep I' w noPlaces r u ∧ (∀ g x, I' g x → C.I0 g x ∨ (C.w0.heap.size ≤ g ∧ g < w.heap.size)) := by
  unfold resF at h
  cases hl : resLF P s fn.results.toList with
  | none => simp [hl] at h
  | some xs =>
    simp only [hl, Option.bind_some, Option.map_eq_some_iff] at h
    obtain ⟨ys, hfz, hr⟩ := h
    obtain ⟨vs, hv1, hv2, hv3⟩ := resLF_run hS _ _ hl
    obtain ⟨⟨I', hI', hS'⟩, hlast⟩ := Sim.froze s.H (xs.flatMap V.ids) hS (fun id sz es hl => ⟨true, hl⟩)
    obtain ⟨hf1, hf2⟩ := freezesR_get hfz
    -- the objects that are looked at
    have hfix : ∀ x, x ∈ xs → ∀ y u, freeze s.H x = some y → Rep I w γ x u → Rep I' w noPlaces y u := by
      intro x hx y u hy hu
      have hids : ∀ id, id ∈ x.ids → id ∈ xs.flatMap V.ids := fun id hid => List.mem_flatMap.2 ⟨x, hx, hid⟩
      have hu' : Rep I' w γ x u := hu.mono (Pres.refl I w) hI' fun _ _ h => h
      -- one cell
      have one : ∀ (c d : V) (uc : Value), (∀ id, id ∈ c.idsC → id ∈ xs.flatMap V.ids) → freezeC s.H c = some d → Rep I' w γ c uc → Rep I' w noPlaces d uc := by
        intro c d uc hc hd huc
        have hh : freezeC (fun y => if y ∈ c.idsC then s.H y else .dead) c = some d := by
          cases c with
          | own id off len => simpa [freezeC, V.idsC] using hd
          | _ => first | (simp [freezeC] at hd; done) | simpa [freezeC] using hd
        refine freezeC_rep hS' (h := fun y => if y ∈ c.idsC then s.H y else .dead) (fun id sz es mu hlv hall => ?_) hh huc
        split at hlv
        · rename_i hm
          refine hlast id sz es mu hlv ?_
          cases mu with
          | false => exact .inl rfl
          | true => exact .inr ⟨hc id hm, hlv, hall⟩
        · cases hlv
      cases x with
      | agg cs =>
        simp only [freeze, Option.map_eq_some_iff] at hy
        obtain ⟨zs, hzs, rfl⟩ := hy
        obtain ⟨g1, g2⟩ := freezeL_get hzs
        cases hu' with
        | agg _ _ us hlen hh' =>
          refine .agg _ _ _ (by omega) fun j c z hc hz => ?_
          obtain ⟨c0, hc0, hfc⟩ := g2 j c hc
          refine one c0 c z (fun id hid => hids id ?_) hfc (hh' j c0 z hc0 hz)
          simp only [V.ids, List.mem_flatMap]
          exact ⟨c0, List.mem_of_getElem? hc0, hid⟩
      | own id off len => exact one (.own id off len) _ _ hids (by simpa only [freeze] using hy) hu'
      | _ => exact one _ _ _ (by simp [V.idsC]) (by simpa only [freeze] using hy) hu'
    have hrep : ∀ (j : Nat) (y : V) (u : Value), ys[j]? = some y → vs[j]? = some u → Rep (fun g x => I' g x ∨ (C.w0.heap.size ≤ g ∧ g < w.heap.size)) w noPlaces y u := by
      intro j y u hy hu
      obtain ⟨x, hx, hfx⟩ := hf2 j y hy
      unfold freezeR at hfx
      cases hfz' : freeze s.H x with
      | some y' =>
        rw [hfz'] at hfx
        cases hfx
        exact (hfix x (List.mem_of_getElem? hx) y u hfz' (hv3 j x u hx hu)).mono (Pres.refl _ _) (fun _ _ h => .inl h) fun _ _ h => h
      | none =>
        rw [hfz'] at hfx
        simp only [orO] at hfx
        unfold mapR at hfx
        split at hfx
        · rename_i id
          split at hfx
          · rename_i ks ws hH
            split at hfx
            · rename_i hall
              cases hfx
              obtain ⟨p, ents, clock, q1, q2, q3, q4, q5, q6, q7, q8⟩ := map_at hS hH (hv3 j _ u hx hu)
              subst q2
              obtain ⟨_, d1, d2⟩ := hS.dom id p q1
              refine .mapf _ _ _ _ clock ents (.inr ⟨d1, d2⟩) q3 q5 q6 fun j x e hx he => ?_
              have := (q8 j x e hx he).frozenF (List.all_eq_true.1 hall x (List.mem_of_getElem? hx))
              exact this.mono (Pres.refl _ _) (fun g x h => .inl (hI' g x h)) fun _ _ h => h
            · cases hfx
          · cases hfx
        · cases hfx
    have hrun : (fn.results.mapM (resM tm)).run P w = .ok vs.toArray w := by
      rw [Array.mapM_eq_mapM_toList]
      simp only [Functor.map, Sem.run_bind', hv1, Result.andThen_ok]
      rfl
    refine ⟨if h : vs.toArray.size = 1 then vs.toArray[0] else .tuple vs.toArray, fun g x => I' g x ∨ (C.w0.heap.size ≤ g ∧ g < w.heap.size), ?_, ?_, fun g x hx => ?_⟩
    · rw [results_eq]
      simp only [Sem.run_bind, hrun, Result.andThen_ok, Sem.run_pure]
    · have hlen : ys.length = vs.length := by omega
      subst hr
      split
      · rename_i x
        have h1 : vs.length = 1 := by simpa using hlen.symm
        rw [dif_pos (by simpa using h1)]
        refine hrep 0 x _ rfl ?_
        simp
      · rename_i hne
        have h1 : ¬ vs.toArray.size = 1 := by
          intro h1
          simp at h1
          rw [h1] at hlen
          obtain ⟨x, rfl⟩ := List.length_eq_one_iff.1 hlen
          exact hne x rfl
        rw [dif_neg h1]
        exact .tup _ _ _ (by simpa using hlen) fun j c u hc hu => hrep j c u hc (by simpa using hu)
    · rcases hx with hx | hx
      · rcases hS'.immB g x hx with h1 | h1
        · exact .inl h1
        · exact .inr ⟨h1, hS'.immS g x hx⟩
      · exact .inr hx


/-- What a result may be weakened to: elements of its own known as a slice. -/
theorem contract_walk {Φ : Specs} (hg : Good P Φ) (K : List Nat) {f : FuncId} {fn : Func} {c : Code} {F : List V → Option V} (hf : P.funcs[f]? = some fn) (hb : fn.body = some c) (hok : okCode fn.ntmps c = true)
    (hp : ∀ xs r, F xs = some r → xs.length ≤ fn.ntmps) (h : ∀ C xs r, F xs = some r → walk P Φ C fn.ntmps K c ⟨pars xs, fun _ => .unborn, 0⟩ fun e s' => (e = .normal ∨ e = .ret) ∧ resF P fn.results.toList s' = some r) : Contract P f F := by
  intro I w args xs r hlen hrep hI hF
  refine calls_of_wp hf hb ?_
  have hsz := hp xs r hF
  refine wp_mono (walk_sound hg c _ _ (h ⟨I, w, []⟩ xs r hF) hok _ w (by simp; omega) rfl (start_simF (C := ⟨I, w, []⟩) hlen hrep hI rfl)) ?_
  rintro e a' w' ⟨_, hd, s', ⟨he, hres⟩, γ, I', hS⟩
  obtain ⟨u, I2, hrun, hr, hI2⟩ := resG_run (fn := fn) hS hres
  have hpost : ∃ v, (results fn a'.tmps).run P w' = .ok v w' ∧ ∃ u, (Ending.returned v) = .returned u ∧ Below w.heap.size w w' ∧ Rep (fun g x => I g x ∨ (w.heap.size ≤ g ∧ g < w'.heap.size)) w' noPlaces r u :=
    ⟨u, hrun, u, rfl, hS.below, hr.mono (Pres.refl _ _) hI2 fun _ _ h => h⟩
  rcases he with rfl | rfl
  · exact ⟨hd, hpost⟩
  · exact ⟨hd, hpost⟩

end Go.Idl
