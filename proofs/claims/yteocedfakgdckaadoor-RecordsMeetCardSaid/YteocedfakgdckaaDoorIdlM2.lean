import Derived.Test.YteocedfakgdckaaDoorIdlM1
import Derived.Tactics
namespace Go.Idl
set_option linter.all false
open Go.RowKit
variable [Laid]
variable {P : Program} {C : Ctx} {γ : Places} {I : Imm} {τ : Nat → V} {H : Heap} {w : World} {a : Act} {o : Oper} {v : V} {tm : Array Value}
theorem equalIn_bool {t : TypeId} (hut : P.underlying t = some .bool) (d : Nat) (a b : Bool) : (Op.equalIn (d + 1) t (.bool a) (.bool b)).run P w = .ok (a == b) w := by
  simp [Op.equalIn, run_underlying hut]
theorem equal_bool {t : TypeId} (hut : P.underlying t = some .bool) (a b : Bool) : (Op.equal t (.bool a) (.bool b)).run P w = .ok (a == b) w :=
  equalIn_bool hut 9999 a b
theorem ev_sound {Φ : Specs} (hΦ : Met P Φ) (hS : Sim C γ I τ H a.tmps w) {nid : Nat} {δ : List (Nat × Obj)} (h : ev P Φ nid (opd τ) H o = some (v, δ)) : Lands C P o a w τ (putH H δ) v := by
  unfold ev evOp at h
  cases h0 : evOp0 P Φ nid (opd τ) (only (need nid (opd τ) o) H) o with
  | none => rw [h0] at h; exact lands_map hS (mapEv_of_only h)
  | some r =>
  rw [h0] at h
  cases h
  have h := h0
  clear h0
  unfold evOp0 at h
  have pr : evPure P (opd τ) o = some (v, δ) → Lands C P o a w τ (putH H δ) v := fun h => by
    obtain ⟨rfl, h2⟩ := lands_pure hS h
    exact h2
  split at h
  case h_1 x ho => cases h; exact lands_move hS (.inl ho)
  case h_2 x ho => cases h; exact lands_move hS (.inr ho)
  case h_3 c x y ho =>
    split at h
    · rename_i t hc
      cases h
      exact lands_pick hS ho hc
    · cases h
  case h_4 op t x y t' ho =>
    unfold evBin at h
    have hx := rep_opd hS x
    have hy := rep_opd hS y
    split at h
    · rename_i u hu
      cases h
      refine lands_value (u := u) (w' := w) ?_ hS (.sc _ _)
      unfold fastBin at hu
      split at hu
      · rename_i k m k' m' h1 h2
        rw [h1] at hx
        rw [h2] at hy
        have e1 := hx.sc_eq
        have e2 := hy.sc_eq
        split at hu
        · rename_i hk
          subst hk
          cases op <;> simp only [binI] at hu <;> first
            | (cases hu; simp [execOp, ho, e1, e2, eqGuard, binOp, Op.intArith, Op.intCmp]; done)
            | (cases hu; simp [execOp, ho, e1, e2, eqGuard, binOp, Op.intBits, andI, orI, xorI]; done)
            | (split at hu
               · cases hu
               · rename_i hb; cases hu; simp [execOp, ho, e1, e2, eqGuard, binOp, Op.intDiv, hb])
            | (simp only [shI] at hu
               split at hu
               · cases hu
               · rename_i hb; cases hu; simp [execOp, ho, e1, e2, eqGuard, binOp, Op.shift, hb])
            | cases hu
        · cases op <;> simp only [shI] at hu <;> first
            | (cases hu; done)
            | (split at hu
               · cases hu
               · rename_i hb; cases hu; simp [execOp, ho, e1, e2, eqGuard, binOp, Op.shift, hb])
      · rename_i m m' h1 h2
        rw [h1] at hx
        rw [h2] at hy
        have e1 := hx.sc_eq
        have e2 := hy.sc_eq
        cases op <;> simp only [binS] at hu <;> first
          | (cases hu; simp [execOp, ho, e1, e2, eqGuard, binOp, Op.stringOp]; done)
          | (cases hu; simp [execOp, ho, e1, e2, eqGuard, binOp, Op.stringOp, ltS]; done)
          | (split at hu
             · cases hu
             · rename_i hb; cases hu; simp only [execOp, ho, e1, e2, eqGuard, binOp, Op.stringOp, if_neg hb, Sem.run_bind, Sem.run_pure, Result.andThen_ok]; try rfl)
          | cases hu
      · rename_i m m' h1 h2
        rw [h1] at hx
        rw [h2] at hy
        have e1 := hx.sc_eq
        have e2 := hy.sc_eq
        split at hu
        · rename_i hb
          have hut : P.underlying t = some .bool := by
            unfold boolT at hb
            split at hb
            · assumption
            · cases hb
          have heq : ∀ a b : Bool, (Op.equal t (.bool a) (.bool b)).run P w = .ok (a == b) w := equal_bool hut
          cases op <;> simp only [binB] at hu <;> first
            | (cases hu; simp [execOp, ho, e1, e2, eqGuard, binOp, heq]; done)
            | (cases hu; simp [execOp, ho, e1, e2, eqGuard, binOp, heq, bne]; done)
            | cases hu
        · cases hu
      · cases hu
    · exact pr h
  case h_5 op t x ho =>
    unfold evUn at h
    have hx := rep_opd hS x
    split at h
    · rename_i b h1
      rw [h1] at hx
      have e1 := hx.sc_eq
      cases h
      refine lands_value (w' := w) ?_ hS (.sc _ _)
      simp [execOp, ho, e1, Op.unary]
    · rename_i k m h1
      rw [h1] at hx
      have e1 := hx.sc_eq
      cases h
      refine lands_value (w' := w) ?_ hS (.sc _ _)
      simp [execOp, ho, e1, Op.unary, Op.intArith]
    · exact pr h
  case h_6 t ho => exact lands_alloc hS ho h
  case h_7 t x ho => exact lands_box hS ho h
  case h_8 t x ho =>
    simp only [Option.map_eq_some_iff, Prod.mk.injEq] at h
    obtain ⟨v', h1, rfl, rfl⟩ := h
    exact lands_load hS ho h1
  case h_9 t x y ho =>
    simp only [Option.map_eq_some_iff, Prod.mk.injEq] at h
    obtain ⟨d, h1, rfl, rfl⟩ := h
    exact lands_store hS ho h1
  case h_10 s x f ho =>
    simp only [Option.map_eq_some_iff, Prod.mk.injEq] at h
    obtain ⟨v', h1, rfl, rfl⟩ := h
    exact lands_fieldAddr hS ho h1
  case h_11 t x i ho =>
    simp only [Option.map_eq_some_iff, Prod.mk.injEq] at h
    obtain ⟨v', h1, rfl, rfl⟩ := h
    exact lands_indexAddr hS ho h1
  case h_12 s x f ho =>
    split at h
    · rename_i cs hx
      cases hf : fieldT P s f with
      | none => simp [hf] at h
      | some fd =>
        simp only [hf, Option.bind_some, Option.map_eq_some_iff, Prod.mk.injEq] at h
        obtain ⟨v', h1, rfl, rfl⟩ := h
        exact lands_field hS ho hx hf h1
    · cases h
  case h_13 x i ho =>
    split at h
    · rename_i vs hx
      simp only [Option.map_eq_some_iff, Prod.mk.injEq] at h
      obtain ⟨v', h1, rfl, rfl⟩ := h
      exact lands_extract hS ho hx h1
    · cases h
  case h_14 t parts ho =>
    simp only [Option.map_eq_some_iff, Prod.mk.injEq] at h
    obtain ⟨v', h1, rfl, rfl⟩ := h
    exact lands_build hS ho h1
  case h_15 t len parts ho => exact lands_bsl hS ho (by simp [need, need0, mapNeed, ho]) h
  case h_16 t l c ho => exact lands_makeSlice hS ho h
  case h_17 t x lo hi mx ho =>
    split at h
    · exact pr h
    · refine lands_slice hS ho (ids := need nid (opd τ) o) ?_ h
      intro id hid
      simp [need, need0, mapNeed, ho]
      exact hid
  case h_18 fn xs ys ho => cases h; exact lands_makeFunc hS ho
  case h_19 x ho =>
    split at h
    · rename_i id idx off hx
      cases h
      rw [← hx]
      exact lands_nilCheck hS ho (.inl ⟨_, _, _, hx⟩)
    · rename_i e off hx
      cases h
      rw [← hx]
      exact lands_nilCheck hS ho (.inr ⟨_, _, hx⟩)
    · exact pr h
  case h_20 t x ho =>
    split at h
    · rename_i s hx
      split at h
      · rename_i ht
        split at h
        · rename_i h0
          cases h
          exact lands_range hS ho ht hx (only_unborn h0)
        · cases h
      · cases h
    · cases h
  case h_21 it str ho =>
    split at h
    · rename_i id hx
      split at h
      · rename_i s pos hl0
        have hl : H id = .ext (.iter s pos) := by
          unfold only at hl0
          split at hl0
          · exact hl0
          · cases hl0
        split at h
        · rename_i hstr
          subst hstr
          obtain ⟨h1, h2⟩ := lands_next (P := P) (o := o) hS ho hx hl
          split at h
          · rename_i hlt; cases h; exact h1 hlt
          · rename_i hge; cases h; exact h2 hge
        · cases h
      · cases h
    · cases h
  case h_22 c ho =>
    split at h
    · rename_i hc
      split at h
      · rename_i x t hargs hts
        split at h
        · exact pr h
        · split at h
          · rename_i e ht
            obtain ⟨n, h1, he⟩ := Option.map_eq_some_iff.1 h
            cases he
            exact lands_len hS ho hc hargs hts ht h1
          · cases h
      · cases h
    · rename_i hc
      split at h
      · rename_i s x t t' hargs hts
        split at h
        · rename_i htt
          exact lands_append hS ho hc hargs hts htt h
        · cases h
      · cases h
    · exact pr h
    · rename_i f hc
      refine lands_call hS hΦ ho hc ?_
      simpa only [need, need0, mapNeed, ho, hc, List.nil_append] using h
    · cases h
  case h_23 => exact pr h
end Go.Idl
namespace Go.Idl
set_option linter.all false
open Go.RowKit
variable [Laid]
def getT : List V → Nat → V
  | [], _ => .any
  | x :: _, 0 => x
  | _ :: xs, n + 1 => getT xs n
def setT : List V → Nat → V → List V
  | [], 0, v => [v]
  | [], n + 1, v => .any :: setT [] n v
  | _ :: xs, 0, v => v :: xs
  | x :: xs, n + 1, v => x :: setT xs n v
def getO : List Obj → Nat → Obj
  | [], _ => .unborn
  | x :: _, 0 => x
  | _ :: xs, n + 1 => getO xs n
def setO : List Obj → Nat → Obj → List Obj
  | [], 0, v => [v]
  | [], n + 1, v => .unborn :: setO [] n v
  | _ :: xs, 0, v => v :: xs
  | x :: xs, n + 1, v => x :: setO xs n v
structure St where
  τ : List V
  H : List Obj
def setOs (H : List Obj) : List (Nat × Obj) → List Obj
  | [] => H
  | (id, x) :: r => setOs (setO H id x) r
def putD (τ : List V) : Option Nat → V → List V
  | some d, v => setT τ d v
  | none, _ => τ
def putF (τ : Nat → V) : Option Nat → V → Nat → V
  | some d, v => updT τ d v
  | none, _ => τ
def wantV (τ : Nat → V) (ops : Array Oper) (o : Oper) : Option Bool :=
  match o.guard with
  | none => some true
  | some (j, want) => match (ops[j]?).bind (·.dst) with
    | none => some false
    | some t => match τ t with
      | .sc (.bool b) => some (b == want)
      | .sc (.tuple _) => some false
      | _ => none
def evSeq (P : Program) (Φ : Specs) (ops : Array Oper) : List Oper → St → Option St
  | [], s => some s
  | o :: rest, s => match wantV (getT s.τ) ops o with
    | some true => match ev P Φ s.H.length (opd (getT s.τ)) (getO s.H) o with
      | some (v, δ) => evSeq P Φ ops rest ⟨putD s.τ o.dst v, setOs s.H δ⟩
      | none => none
    | some false => evSeq P Φ ops rest ⟨putD s.τ o.dst (.sc undef), s.H⟩
    | none => none
def SimS (C : Ctx) (s : St) (a : Act) (w : World) : Prop := ∃ γ I, Sim C γ I (getT s.τ) (getO s.H) a.tmps w
variable {P : Program} {C : Ctx} {γ : Places} {I : Imm} {τ : Nat → V} {H : Heap} {w : World} {a : Act} {o : Oper}
theorem wantV_sound (hS : Sim C γ I τ H a.tmps w) {ops : Array Oper} {b : Bool} (h : wantV τ ops o = some b) : Region.wanted o (yielded ops a.tmps) = b := by
  unfold wantV at h
  unfold Region.wanted
  split at h
  · rename_i hg; cases h; rw [hg]
  · rename_i j want hg
    rw [hg]
    dsimp only
    split at h
    · rename_i hd
      cases h
      simp [yielded, hd]
    · rename_i t hd
      have hr := hS.tmp t
      split at h
      · rename_i b' hb
        cases h
        rw [hb] at hr
        have he := hr.sc_eq
        have : a.tmps[t]? = some (.bool b') := by
          cases hh : a.tmps[t]? with
          | none => simp [hh, undef] at he
          | some u => simp [hh] at he; rw [he]
        simp [yielded, hd, this]
      · rename_i vs hb
        cases h
        rw [hb] at hr
        have he := hr.sc_eq
        cases hh : a.tmps[t]? with
        | none => simp [yielded, hd, hh]
        | some u => simp [hh] at he; simp [yielded, hd, hh, he]
      · cases h
def dstOk (n : Nat) (o : Oper) : Bool := match o.dst with
  | some d => decide (d < n)
  | none => true
theorem sim_putF {H' : Heap} (hS : Sim C γ I τ H' a.tmps w) {v : V} {u : Value} (hr : Rep I w γ v u) (hd : dstOk a.tmps.size o = true) :
    Sim C γ I (putF τ o.dst v) H' (a.put o.dst u).tmps w ∧ (a.put o.dst u).tmps.size = a.tmps.size ∧ (a.put o.dst u).defers = a.defers := by
  unfold dstOk at hd
  cases ho : o.dst with
  | none => exact ⟨hS, rfl, rfl⟩
  | some d =>
    rw [ho] at hd
    simp only [decide_eq_true_eq] at hd
    refine ⟨?_, by simp [Act.put], rfl⟩
    simp only [putF, Act.put]
    exact hS.put hr hd
end Go.Idl
namespace Go.Idl
set_option linter.all false
open Go.RowKit
variable [Laid]
section
variable {X : Type} (wr : Nat → Nat → Option X) (s0 : Nat → X)
def cur (S : Nat → Bool) : Nat → Nat → X
  | 0, x => s0 x
  | m + 1, x => if S m then (wr m x).getD (cur S m x) else cur S m x
theorem cur_congr {S S' : Nat → Bool} : ∀ {m : Nat} {x : Nat}, (∀ k, k < m → wr k x ≠ none → S k = S' k) → cur wr s0 S m x = cur wr s0 S' m x
  | 0, _, _ => rfl
  | m + 1, x, h => by
    have ih := cur_congr (S := S) (S' := S') (m := m) (x := x) (fun k hk => h k (by omega))
    simp only [cur, ih]
    cases hw : wr m x with
    | none => simp
    | some u => rw [h m (by omega) (by simp [hw])]
theorem cur_cut {S : Nat → Bool} : ∀ {m i : Nat} {x : Nat}, i ≤ m → (∀ k, i ≤ k → k < m → wr k x ≠ none → S k = false) → cur wr s0 S m x = cur wr s0 S i x
  | 0, i, x, hi, _ => by have : i = 0 := by omega
                         subst this; rfl
  | m + 1, i, x, hi, h => by
    by_cases e : i = m + 1
    · subst e; rfl
    · have ih := cur_cut (S := S) (m := m) (i := i) (x := x) (by omega) (fun k h1 h2 => h k h1 (by omega))
      simp only [cur]
      cases hw : wr m x with
      | none => simp [ih]
      | some u => rw [h m (by omega) (by omega) (by simp [hw])]; simp [ih]
theorem cur_read {S : Nat → Bool} {m i x : Nat} (hi : i ≤ m) (h : ∀ k, k < m → k ≠ i → wr k x ≠ none → (k < i → S k = true) ∧ (i < k → S k = false)) (hsi : S i = false) :
    cur wr s0 S m x = cur wr s0 (fun _ => true) i x := by
  rw [cur_cut wr s0 (i := i) hi (fun k h1 h2 hw => by
    by_cases e : k = i
    · subst e; exact hsi
    · exact (h k h2 e hw).2 (by omega))]
  exact cur_congr wr s0 fun k hk hw => (h k (by omega) (by omega) hw).1 hk
theorem cur_write {S S' : Nat → Bool} {i x : Nat} (hS' : ∀ k, S' k = if k = i then true else S k) : ∀ {m : Nat}, i < m → (wr i x ≠ none → ∀ k, i < k → k < m → wr k x ≠ none → S k = false) → S i = false →
    cur wr s0 S' m x = (wr i x).getD (cur wr s0 S m x)
  | 0, h, _, _ => by omega
  | m + 1, h, hk, hsi => by
    by_cases e : i = m
    · subst e
      have h1 : cur wr s0 S' i x = cur wr s0 S i x := cur_congr wr s0 fun k hk' _ => by rw [hS' k, if_neg (by omega)]
      simp only [cur, hS' i, if_true, h1, hsi]
      simp
    · have ih := cur_write hS' (m := m) (by omega) (fun hw k h1 h2 => hk hw k h1 (by omega)) hsi
      have e2 : S' m = S m := by rw [hS' m, if_neg (by omega)]
      simp only [cur, ih, e2]
      cases hw : wr i x with
      | none => simp
      | some u =>
        cases hm : wr m x with
        | none => simp
        | some u2 =>
          rw [hk (by simp [hw]) m (by omega) (by omega) (by simp [hm])]
          simp
end
def befM (acc : List Nat) (o : Oper) : Nat := o.after.toList.foldl (fun s e => if Region.binds .any e then s ||| 2 ^ e.on ||| acc.getD e.on 0 else s) 0
def befs : List Oper → List Nat → List Nat
  | [], acc => acc
  | o :: r, acc => befs r (acc ++ [befM acc o])
theorem befM_bit {acc : List Nat} {o : Oper} {j : Nat} (h : (befM acc o).testBit j = true) : ∃ e, e ∈ o.after ∧ Region.binds .any e = true ∧ (j = e.on ∨ (acc.getD e.on 0).testBit j = true) := by
  unfold befM at h
  have key : ∀ (l : List Edge) (s : Nat), (l.foldl (fun s e => if Region.binds .any e then s ||| 2 ^ e.on ||| acc.getD e.on 0 else s) s).testBit j = true →
      s.testBit j = true ∨ ∃ e, e ∈ l ∧ Region.binds .any e = true ∧ (j = e.on ∨ (acc.getD e.on 0).testBit j = true) := by
    intro l
    induction l with
    | nil => intro s h; exact .inl h
    | cons e l ih =>
      intro s h
      rw [List.foldl_cons] at h
      rcases ih _ h with h1 | ⟨e', he', hb, hh⟩
      · by_cases hb : Region.binds .any e = true
        · rw [if_pos hb, Nat.testBit_or, Nat.testBit_or] at h1
          simp only [Bool.or_eq_true] at h1
          rcases h1 with (h1 | h1) | h1
          · exact .inl h1
          · refine .inr ⟨e, by simp, hb, .inl ?_⟩
            rw [Nat.testBit_two_pow] at h1
            simpa using Eq.symm (by simpa using h1)
          · exact .inr ⟨e, by simp, hb, .inr h1⟩
        · rw [if_neg hb] at h1
          exact .inl h1
      · exact .inr ⟨e', by simp [he'], hb, hh⟩
  rcases key _ 0 h with h0 | ⟨e, he, hh⟩
  · simp at h0
  · exact ⟨e, by simpa using he, hh⟩
def Down (ops : Array Oper) (S : Nat → Bool) : Prop := ∀ i o, ops[i]? = some o → S i = true → ∀ e, e ∈ o.after → Region.binds .any e = true → S e.on = true
theorem befs_down {ops : Array Oper} {S : Nat → Bool} (hd : Down ops S) : ∀ (l : List Oper) (acc : List Nat), (∀ k, l[k]? = ops[acc.length + k]?) →
    (∀ i j, (acc.getD i 0).testBit j = true → (∀ o, ops[i]? = some o → ∀ e, e ∈ o.after → Region.binds .any e = true → S e.on = true) → S j = true) →
    ∀ i j, ((befs l acc).getD i 0).testBit j = true → (∀ o, ops[i]? = some o → ∀ e, e ∈ o.after → Region.binds .any e = true → S e.on = true) → S j = true
  | [], acc, _, h => h
  | o :: r, acc, hl, h => by
    refine befs_down hd r (acc ++ [befM acc o]) (fun k => ?_) (fun i j hb hpre => ?_)
    · have := hl (k + 1)
      simp at this ⊢
      rw [this]
      congr 1
      omega
    · rcases Nat.lt_or_ge i acc.length with hi | hi
      · rw [List.getD_eq_getElem?_getD, List.getElem?_append_left hi, ← List.getD_eq_getElem?_getD] at hb
        exact h i j hb hpre
      · by_cases e : i = acc.length
        · subst e
          have ho : ops[acc.length]? = some o := by simpa using (hl 0).symm
          rw [List.getD_eq_getElem?_getD, List.getElem?_append_right (by omega)] at hb
          simp at hb
          obtain ⟨e, he, hbi, hh⟩ := befM_bit hb
          have hs := hpre o ho e he hbi
          rcases hh with rfl | hh
          · exact hs
          · exact h e.on j hh (fun o' ho' e' he' hb' => hd e.on o' ho' hs e' he' hb')
        · rw [List.getD_eq_getElem?_getD, List.getElem?_eq_none (by simp; omega)] at hb
          simp at hb
end Go.Idl
namespace Go.Idl
set_option linter.all false
open Go.RowKit
variable [Laid]
variable {P : Program} {Φ : Specs} {ρ ρ' : Operand → V} {h : Heap} {nid : Nat}
theorem evPure_congr (o : Oper) (hh : ∀ x ∈ o.op.operands, ρ x = ρ' x) : evPure P ρ o = evPure P ρ' o := by
  unfold evPure
  have h1 : (o.op.operands.all fun x => (ρ x).conc.isSome) = (o.op.operands.all fun x => (ρ' x).conc.isSome) := by
    rw [Bool.eq_iff_iff, Array.all_eq_true_iff_forall_mem, Array.all_eq_true_iff_forall_mem]
    exact ⟨fun hx x hm => by rw [← hh x hm]; exact hx x hm, fun hx x hm => by rw [hh x hm]; exact hx x hm⟩
  rw [h1]
  split
  · split
    · rfl
    · rename_i hs
      rw [execOp_congr (ρ := fun x => ((ρ x).conc).getD undef) (ρ' := fun x => ((ρ' x).conc).getD undef) o hs (fun x hx => by rw [hh x hx])]
  · rfl
theorem map_congr' (l : List Operand) (hh : ∀ x ∈ l, ρ x = ρ' x) : l.map ρ = l.map ρ' := List.map_congr_left hh
theorem parts_congr (ps : Array (Nat × Operand)) (hh : ∀ x ∈ (ps.toList.map (·.2)), ρ x = ρ' x) : (ps.toList.map fun p => (p.1, ρ p.2)) = ps.toList.map fun p => (p.1, ρ' p.2) :=
  List.map_congr_left fun p hp => by rw [hh p.2 (List.mem_map.2 ⟨p, hp, rfl⟩)]
theorem evOp0_congr (o : Oper) (hh : ∀ x ∈ o.op.operands, ρ x = ρ' x) : evOp0 P Φ nid ρ h o = evOp0 P Φ nid ρ' h o ∧ need0 nid ρ o = need0 nid ρ' o := by
  have hp := evPure_congr (P := P) o hh
  unfold evOp0 need0
  cases ho : o.op <;> rw [ho] at hh <;> simp only [Op.operands] at hh <;> simp only [hp]
  case move x => rw [hh x (by simp)]; simp
  case assign x => rw [hh x (by simp)]; simp
  case pick c x y => rw [hh c (by simp), hh x (by simp), hh y (by simp)]; simp
  case binOp op t x y t' => rw [hh x (by simp), hh y (by simp)]; simp only [evBin, hp]; simp
  case unOp op t x => rw [hh x (by simp)]; simp only [evUn, hp]; simp
  case alloc => simp
  case box t x => rw [hh x (by simp)]; simp
  case load t x => rw [hh x (by simp)]; simp
  case store t x y => rw [hh x (by simp), hh y (by simp)]; simp
  case fieldAddr s x f => rw [hh x (by simp)]; simp
  case indexAddr t x i => rw [hh x (by simp), hh i (by simp)]; simp
  case field s x f => rw [hh x (by simp)]; simp
  case extract x i => rw [hh x (by simp)]; simp
  case build t ps => rw [parts_congr (ρ := ρ) (ρ' := ρ') ps (fun x hx => hh x (by simpa using hx))]; simp
  case buildSlice t n ps => rw [parts_congr (ρ := ρ) (ρ' := ρ') ps (fun x hx => hh x (by simpa using hx))]; exact ⟨rfl, rfl⟩
  case makeSlice t x y => rw [hh x (by simp), hh y (by simp)]; simp
  case slice t x lo hi mx =>
    have h1 : ρ x = ρ' x := hh x (by simp)
    have h2 : lo.map ρ = lo.map ρ' := by cases lo with | none => rfl | some y => simp [hh y (by simp)]
    have h3 : hi.map ρ = hi.map ρ' := by cases hi with | none => rfl | some y => simp [hh y (by simp)]
    have h4 : mx.map ρ = mx.map ρ' := by cases mx with | none => rfl | some y => simp [hh y (by simp)]
    rw [h1, h2, h3, h4]
    simp
  case makeFunc fn xs ys =>
    rw [map_congr' (ρ := ρ) (ρ' := ρ') xs.toList (fun x hx => hh x (by simp; exact .inl (by simpa using hx))), map_congr' (ρ := ρ) (ρ' := ρ') ys.toList (fun x hx => hh x (by simp; exact .inr (by simpa using hx)))]
    simp
  case range t x => rw [hh x (by simp)]; simp
  case next it b => rw [hh it (by simp)]; simp
  case nilCheck x => rw [hh x (by simp)]; simp
  case call c =>
    have hargs : ∀ x ∈ c.args.toList, ρ x = ρ' x := fun x hx => hh x (by simp [Call.operands]; exact .inr (by simpa using hx))
    have h1 := map_congr' (ρ := ρ) (ρ' := ρ') c.args.toList hargs
    have h2 : (c.args.toList.flatMap fun x => (ρ x).ids) = c.args.toList.flatMap fun x => (ρ' x).ids := by
      simp only [List.flatMap_def]
      congr 1
      exact List.map_congr_left fun x hx => by rw [hargs x hx]
    refine ⟨?_, by rw [h2]⟩
    split
    · split
      · rename_i x t hxs hts
        rw [hargs x (by rw [hxs]; simp)]
      · rfl
    · split
      · rename_i s x t t' hxs hts
        rw [hargs s (by rw [hxs]; simp), hargs x (by rw [hxs]; simp)]
      · rfl
    · rfl
    · simp only [evCall, h1]
    · rfl
  all_goals simp
theorem mapEv_congr (o : Oper) (hh : ∀ x ∈ o.op.operands, ρ x = ρ' x) : mapEv P nid ρ h o = mapEv P nid ρ' h o ∧ mapNeed nid ρ o = mapNeed nid ρ' o := by
  unfold mapEv mapNeed
  cases ho : o.op <;> rw [ho] at hh <;> simp only [Op.operands] at hh <;> try (exact ⟨rfl, rfl⟩)
  case makeMap t r => cases r with | none => exact ⟨rfl, rfl⟩ | some x => simp [hh x (by simp)]
  case mapUpdate t m k x => dsimp only; rw [hh m (by simp), hh k (by simp), hh x (by simp)]; simp
  case lookup t m k b => dsimp only; rw [hh m (by simp), hh k (by simp)]; simp
  case call c =>
    have hargs : ∀ x ∈ c.args.toList, ρ x = ρ' x := fun x hx => hh x (by simp [Call.operands]; exact .inr (by simpa using hx))
    constructor
    · simp only
      split
      · rename_i x t _ hxs hts; rw [hargs x (by rw [hxs]; simp)]
      · rename_i x y t _ _ hxs hts; rw [hargs x (by rw [hxs]; simp), hargs y (by rw [hxs]; simp)]
      · rfl
    · simp only
      split
      · rename_i x _ hxs; rw [hargs x (by rw [hxs]; simp)]
      · rename_i x y _ hxs; rw [hargs x (by rw [hxs]; simp)]
      · rfl
theorem evOp_congr (o : Oper) (hh : ∀ x ∈ o.op.operands, ρ x = ρ' x) : evOp P Φ nid ρ h o = evOp P Φ nid ρ' h o ∧ need nid ρ o = need nid ρ' o := by
  obtain ⟨h1, h2⟩ := evOp0_congr (P := P) (Φ := Φ) (nid := nid) (h := h) o hh
  obtain ⟨h3, h4⟩ := mapEv_congr (P := P) (nid := nid) (h := h) o hh
  exact ⟨by rw [evOp, evOp, h1, h3], by rw [need, need, h2, h4]⟩
end Go.Idl
namespace Go.Idl
set_option linter.all false
open Go.RowKit
variable [Laid]
structure Rec where
  v : V
  δ : List (Nat × Obj)
  rd : List Nat
def trace (P : Program) (Φ : Specs) (ops : Array Oper) (n0 : Nat) : List Oper → Nat → (Nat → V) → Heap → Option (List Rec × (Nat → V) × Heap)
  | [], _, τ, H => some ([], τ, H)
  | o :: r, i, τ, H => match wantV τ ops o with
    | some true => match ev P Φ (n0 + i) (opd τ) H o with
      | some (v, δ) => match trace P Φ ops n0 r (i + 1) (putF τ o.dst v) (putH H δ) with
        | some p => some (⟨v, δ, need (n0 + i) (opd τ) o⟩ :: p.1, p.2)
        | none => none
      | none => none
    | some false => match trace P Φ ops n0 r (i + 1) (putF τ o.dst (.sc undef)) H with
      | some p => some (⟨.sc undef, [], []⟩ :: p.1, p.2)
      | none => none
    | none => none
def traceL (P : Program) (Φ : Specs) (ops : Array Oper) (n0 : Nat) : List Oper → Nat → List V → List Obj → Option (List Rec × St)
  | [], _, τ, H => some ([], ⟨τ, H⟩)
  | o :: r, i, τ, H => match wantV (getT τ) ops o with
    | some true => match ev P Φ (n0 + i) (opd (getT τ)) (getO H) o with
      | some (v, δ) => match traceL P Φ ops n0 r (i + 1) (putD τ o.dst v) (setOs H δ) with
        | some p => some (⟨v, δ, need (n0 + i) (opd (getT τ)) o⟩ :: p.1, p.2)
        | none => none
      | none => none
    | some false => match traceL P Φ ops n0 r (i + 1) (putD τ o.dst (.sc undef)) H with
      | some p => some (⟨.sc undef, [], []⟩ :: p.1, p.2)
      | none => none
    | none => none
def clash (x y : Rec) : Bool := x.δ.any (fun p => y.rd.contains p.1 || y.δ.any (fun q => q.1 == p.1)) || y.δ.any (fun p => x.rd.contains p.1)
def rec0 : Rec := ⟨.any, [], []⟩
def apartAll (bef : List Nat) (recs : List Rec) : Bool :=
  (List.range recs.length).all fun j => (List.range j).all fun i => (bef.getD j 0).testBit i || !clash (recs.getD i rec0) (recs.getD j rec0)
def oper0 : Oper := { dst := none, op := .move (.const undef), type := 0, pos := "", after := #[], guard := none }
def drawOk (ops : Array Oper) : Bool :=
  let bef := befs ops.toList []
  (List.range ops.size).all fun j => (ops.getD j oper0).after.all (fun e => !Region.binds .any e || decide (e.on < j)) &&
    (List.range j).all fun i => (bef.getD j 0).testBit i || Oper.apart ops (ops.getD i oper0) (ops.getD j oper0)
def evDraw (P : Program) (Φ : Specs) (ops : Array Oper) (s : St) : Option St :=
  match traceL P Φ ops s.H.length ops.toList 0 s.τ s.H with
  | some (recs, s') => if apartAll (befs ops.toList []) recs then some s' else none
  | none => none
def lastOf (x : Nat) : List (Nat × Obj) → Option Obj
  | [] => none
  | (id, y) :: r => match lastOf x r with
    | some z => some z
    | none => if x = id then some y else none
theorem putH_last (x : Nat) : ∀ (δ : List (Nat × Obj)) (H : Heap), putH H δ x = (lastOf x δ).getD (H x)
  | [], H => rfl
  | (id, y) :: r, H => by
    rw [putH_cons, putH_last x r]
    simp only [lastOf]
    cases h : lastOf x r with
    | some z => rfl
    | none =>
      simp only [Option.getD_none, updH]
      split <;> simp_all
theorem lastOf_mem {x : Nat} : ∀ {δ : List (Nat × Obj)}, lastOf x δ ≠ none → ∃ y, (x, y) ∈ δ
  | [], h => by simp [lastOf] at h
  | (id, y) :: r, h => by
    simp only [lastOf] at h
    cases hr : lastOf x r with
    | some z =>
      obtain ⟨y', hy'⟩ := lastOf_mem (x := x) (δ := r) (by simp [hr])
      exact ⟨y', by simp [hy']⟩
    | none =>
      simp [hr] at h
      subst h
      exact ⟨y, by simp⟩
section
variable {P : Program} {Φ : Specs} {ops : Array Oper} {n0 : Nat} (R : Nat → Rec) (τ0 : Nat → V) (H0 : Heap)
def wrT (ops : Array Oper) (k t : Nat) : Option V := (ops[k]?).bind fun o => if o.dst = some t then some (R k).v else none
def wrH (k x : Nat) : Option Obj := lastOf x (R k).δ
def curT (ops : Array Oper) := cur (wrT R ops) τ0
def curH := cur (wrH R) H0
def Fact (P : Program) (Φ : Specs) (ops : Array Oper) (n0 : Nat) (k : Nat) (o : Oper) : Prop :=
  (wantV (curT R τ0 ops (fun _ => true) k) ops o = some true ∧ ev P Φ (n0 + k) (opd (curT R τ0 ops (fun _ => true) k)) (curH R H0 (fun _ => true) k) o = some ((R k).v, (R k).δ) ∧
    (R k).rd = need (n0 + k) (opd (curT R τ0 ops (fun _ => true) k)) o) ∨
  (wantV (curT R τ0 ops (fun _ => true) k) ops o = some false ∧ (R k).v = .sc undef ∧ (R k).δ = [])
theorem putF_at (τ : Nat → V) (d : Option Nat) (v : V) (t : Nat) : putF τ d v t = if d = some t then v else τ t := by
  cases d with
  | none => simp [putF]
  | some d =>
    simp only [putF, updT, Option.some.injEq]
    by_cases e : t = d
    · subst e; simp
    · rw [if_neg e, if_neg (fun h => e h.symm)]
theorem trace_facts : ∀ (l : List Oper) (i : Nat) (τ : Nat → V) (H : Heap) (recs : List Rec) (τ' : Nat → V) (H' : Heap), (∀ k o, l[k]? = some o → ops[i + k]? = some o) → (∀ k r, recs[k]? = some r → R (i + k) = r) →
    τ = curT R τ0 ops (fun _ => true) i → H = curH R H0 (fun _ => true) i → trace P Φ ops n0 l i τ H = some (recs, τ', H') →
    recs.length = l.length ∧ (∀ k o, l[k]? = some o → Fact R τ0 H0 P Φ ops n0 (i + k) o) ∧ τ' = curT R τ0 ops (fun _ => true) (i + l.length) ∧ H' = curH R H0 (fun _ => true) (i + l.length)
  | [], i, τ, H, recs, τ', H', _, _, hτ, hH, h => by
    simp only [trace, Option.some.injEq, Prod.mk.injEq] at h
    obtain ⟨rfl, rfl, rfl⟩ := h
    exact ⟨rfl, by simp, hτ, hH⟩
  | o :: r, i, τ, H, recs, τe, He, hl, hR, hτ, hH, h => by
    have ho : ops[i]? = some o := by simpa using hl 0 o rfl
    have hl' : ∀ k o', r[k]? = some o' → ops[i + 1 + k]? = some o' := fun k o' hk => by
      have := hl (k + 1) o' (by simpa using hk)
      rw [← this]
      congr 1
      omega
    have fin : ∀ {τ' : Nat → V} {H' : Heap} {v : V} {δ : List (Nat × Obj)} {rd : List Nat} {p : List Rec × (Nat → V) × Heap}, trace P Φ ops n0 r (i + 1) τ' H' = some p → recs = ⟨v, δ, rd⟩ :: p.1 → (τe, He) = p.2 →
        τ' = putF τ o.dst v → H' = putH H δ → (R i = ⟨v, δ, rd⟩ → Fact R τ0 H0 P Φ ops n0 i o) →
        recs.length = (o :: r).length ∧ (∀ k o', (o :: r)[k]? = some o' → Fact R τ0 H0 P Φ ops n0 (i + k) o') ∧ τe = curT R τ0 ops (fun _ => true) (i + (o :: r).length) ∧ He = curH R H0 (fun _ => true) (i + (o :: r).length) := by
      intro τ' H' v δ rd p hp hrecs hs' hτ' hH' hfact
      obtain ⟨p1, p2, p3⟩ := p
      simp only [Prod.mk.injEq] at hs'
      obtain ⟨rfl, rfl⟩ := hs'
      subst hrecs hτ' hH'
      have hRi : R i = ⟨v, δ, rd⟩ := by simpa using hR 0 ⟨v, δ, rd⟩ rfl
      obtain ⟨h1, h2, h3, h4⟩ := trace_facts r (i + 1) _ _ p1 _ _ hl' (fun k q hq => by
          have := hR (k + 1) q (by simpa using hq)
          rw [← this]
          congr 1
          omega) (by
          funext t
          rw [putF_at, hτ]
          simp only [curT, cur, wrT, ho, Option.bind_some, hRi, if_true]
          split <;> simp_all) (by
          funext x
          rw [putH_last, hH]
          simp only [curH, cur, wrH, hRi, if_true]) hp
      refine ⟨by simp [h1], fun k o' hk => ?_, ?_, ?_⟩
      · cases k with
        | zero => simp at hk; subst hk; exact hfact hRi
        | succ k =>
          have := h2 k o' (by simpa using hk)
          rw [show i + (k + 1) = i + 1 + k from by omega]
          exact this
      · rw [h3]; congr 1; simp; omega
      · rw [h4]; congr 1; simp; omega
    simp only [trace] at h
    split at h
    · rename_i hw
      split at h
      · rename_i v δ hev
        split at h
        · rename_i p hp
          simp only [Option.some.injEq, Prod.mk.injEq] at h
          exact fin hp h.1.symm h.2.symm rfl rfl fun hRi => .inl ⟨by rw [← hτ]; exact hw, by rw [← hτ, ← hH, hRi]; exact hev, by rw [← hτ, hRi]⟩
        · cases h
      · cases h
    · rename_i hw
      split at h
      · rename_i p hp
        simp only [Option.some.injEq, Prod.mk.injEq] at h
        exact fin (δ := []) hp h.1.symm h.2.symm rfl rfl fun hRi => .inr ⟨by rw [← hτ]; exact hw, by rw [hRi], by rw [hRi]⟩
      · cases h
    · cases h
end
end Go.Idl
namespace Go.Idl
set_option linter.all false
open Go.RowKit
variable [Laid]
variable {P : Program} {C : Ctx} {w : World} {a : Act}
def unl (listed : Array Bool) : Nat → Nat
  | 0 => 0
  | m + 1 => unl listed m + if listed.getD m true = false then 1 else 0
theorem unl_zero {listed : Array Bool} : ∀ {m : Nat}, unl listed m = 0 → ∀ k, k < m → listed.getD k true = true
  | 0, _, k, hk => by omega
  | m + 1, h, k, hk => by
    simp only [unl] at h
    by_cases e : k = m
    · subst e
      cases hh : listed.getD k true with
      | true => rfl
      | false => rw [hh] at h; simp at h
    · exact unl_zero (m := m) (by omega) k (by omega)
theorem unl_same {listed : Array Bool} {i : Nat} : ∀ {m : Nat}, m ≤ i → unl (listed.setIfInBounds i true) m = unl listed m
  | 0, _ => rfl
  | m + 1, h => by
    simp only [unl, unl_same (listed := listed) (i := i) (m := m) (by omega), getD_set_ne true (show i ≠ m by omega)]
theorem unl_set {listed : Array Bool} {i : Nat} (hl : listed.getD i true = false) : ∀ {m : Nat}, i < m → unl (listed.setIfInBounds i true) m + 1 = unl listed m
  | 0, h => by omega
  | m + 1, h => by
    simp only [unl]
    by_cases e : i = m
    · subst e
      rw [unl_same (Nat.le_refl _), hl]
      have hlt : i < listed.size := by
        rcases Nat.lt_or_ge i listed.size with h' | h'
        · exact h'
        · simp [Array.getElem?_eq_none h'] at hl
      simp [hlt]
    · have := unl_set hl (m := m) (by omega)
      rw [getD_set_ne true e]
      omega
theorem unl_new (n m : Nat) (h : m ≤ n) : unl (Array.replicate n false) m = m := by
  induction m with
  | zero => rfl
  | succ m ih =>
    simp only [unl, ih (by omega)]
    have : (Array.replicate n false).getD m true = false := by simp [show m < n from by omega]
    rw [this]
    simp
theorem wpAny_inv {r : Option Nat} {ops : Array Oper} {Q : Exit → Act → World → Prop} (Inv : Array Bool → Act → World → Prop)
    (hend : ∀ listed a w, Inv listed a w → listed.size = ops.size → (∀ k, k < ops.size → listed.getD k true = true) → Q .normal a w)
    (hmin : ∀ listed a w, Inv listed a w → listed.size = ops.size → Region.ready .any ops listed = [] → ∀ k, k < ops.size → listed.getD k true = true)
    (hstep : ∀ listed a w i, Inv listed a w → listed.size = ops.size → i ∈ Region.ready .any ops listed → wpOpIn (rf r) 0 P ops Q i (Inv (listed.setIfInBounds i true)) a w) :
    ∀ fuel listed a w, Inv listed a w → listed.size = ops.size → unl listed ops.size = fuel → wpAnyIn (rf r) 0 P .any ops Q fuel listed a w
  | 0, listed, a, w, hI, hs, hu => by
    have hall := unl_zero hu
    refine ⟨?_, hend listed a w hI hs hall⟩
    rw [List.eq_nil_iff_forall_not_mem]
    intro i hi
    obtain ⟨h0, o, ho, _⟩ := mem_ready.1 hi
    rw [hall i (Array.getElem?_eq_some_iff.1 ho).1] at h0
    cases h0
  | fuel + 1, listed, a, w, hI, hs, hu => by
    refine ⟨fun hr => hend listed a w hI hs (hmin listed a w hI hs hr), fun i hi => ?_⟩
    refine wpOpIn_mono (fun a' w' hI' => wpAny_inv Inv hend hmin hstep fuel _ a' w' hI' (by simp [hs]) ?_) (hstep listed a w i hI hs hi)
    obtain ⟨h0, o, ho, _⟩ := mem_ready.1 hi
    have := unl_set h0 (Array.getElem?_eq_some_iff.1 ho).1
    omega
theorem trace_sound {r : Option Nat} {Φ : Specs} (hΦ : Met P Φ) (hm : P.follows .mixedOrders = true) {ops : Array Oper} {id n n0 : Nat} {ds : List Deferred} {Q : Exit → Act → World → Prop} {τ τ' : Nat → V} {H H' : Heap} {recs : List Rec}
    (hok : ops.toList.all (dstOk n) = true) (hdr : drawOk ops = true) (hn : a.tmps.size = n) (hds : a.defers = ds) (hS : ∃ γ I, Sim C γ I τ H a.tmps w)
    (htr : trace P Φ ops n0 ops.toList 0 τ H = some (recs, τ', H')) (hap : apartAll (befs ops.toList []) recs = true)
    (hQ : ∀ a' w', a'.tmps.size = n → a'.defers = ds → (∃ γ I, Sim C γ I τ' H' a'.tmps w') → Q .normal a' w') : (Code.region id ops true).wpIn (rf r) 0 P Q a w := by
      obtain ⟨γ0, I0, hS⟩ := hS
      have hops : ∀ k o, ops.toList[k]? = some o → ops[0 + k]? = some o := fun k o h => by simpa using h
      obtain ⟨hrl, hfacts, hτe, hHe⟩ := trace_facts (P := P) (Φ := Φ) (ops := ops) (n0 := n0) (fun k => recs.getD k rec0) τ H ops.toList 0 τ H recs τ' H' hops
        (fun k r hr => by simp [List.getD_eq_getElem?_getD, hr]) rfl rfl htr
      have hlen : ops.toList.length = ops.size := by simp
      rw [hlen] at hrl hτe hHe
      simp only [Nat.zero_add] at hfacts hτe hHe
      generalize hR : (fun k => recs.getD k rec0) = R at hfacts hτe hHe
      -- the two checks, as facts on pairs
      have hpair : ∀ i j, i < j → j < ops.size → ((befs ops.toList []).getD j 0).testBit i = true ∨ clash (R i) (R j) = false := by
        intro i j hij hj
        simp only [apartAll, List.all_eq_true, List.mem_range] at hap
        have := hap j (by omega) i hij
        simp only [Bool.or_eq_true, Bool.not_eq_true'] at this
        rw [← hR]
        exact this
      have hstat : ∀ i j oi oj, i < j → ops[i]? = some oi → ops[j]? = some oj → ((befs ops.toList []).getD j 0).testBit i = true ∨ Oper.apart ops oi oj = true := by
        intro i j oi oj hij hi hj
        simp only [drawOk, List.all_eq_true, List.mem_range, Bool.and_eq_true, Bool.or_eq_true] at hdr
        have := (hdr j (Array.getElem?_eq_some_iff.1 hj).1).2 i hij
        simpa [Array.getD_eq_getD_getElem?, hi, hj] using this
      have hback : ∀ j oj, ops[j]? = some oj → ∀ e, e ∈ oj.after → Region.binds .any e = true → e.on < j := by
        intro j oj hj e he hb
        simp only [drawOk, List.all_eq_true, List.mem_range, Bool.and_eq_true] at hdr
        have := (hdr j (Array.getElem?_eq_some_iff.1 hj).1).1
        rw [Array.getD_eq_getD_getElem?, hj, Option.getD_some, Array.all_eq_true_iff_forall_mem] at this
        have := this e he
        simpa [hb] using this
      let S : Array Bool → Nat → Bool := fun listed k => listed.getD k false
      let Inv : Array Bool → Act → World → Prop := fun listed a w => a.tmps.size = n ∧ a.defers = ds ∧ Down ops (S listed) ∧
        ∃ γ I, Sim C γ I (curT R τ ops (S listed) ops.size) (curH R H (S listed) ops.size) a.tmps w
      refine wpIn_region_any hm (wpAny_inv Inv ?_ ?_ ?_ ops.size _ a _ ?_ (by simp) (unl_new _ _ (Nat.le_refl _)))
      · -- all have come
        rintro listed a' w' ⟨h1, h2, _, γ, I, h4⟩ hsz hall
        refine hQ a' w' h1 h2 ⟨γ, I, ?_⟩
        have hS1 : ∀ k, k < ops.size → S listed k = true := fun k hk => by
          have := hall k hk
          simp only [S]
          rw [Array.getD_eq_getD_getElem?] at this ⊢
          cases hh : listed[k]? with
          | none => rw [Array.getElem?_eq_none_iff] at hh; omega
          | some b => rw [hh] at this; simpa using this
        rw [hτe, hHe]
        have e1 : curT R τ ops (S listed) ops.size = curT R τ ops (fun _ => true) ops.size := by
          funext t
          exact cur_congr _ _ fun k hk _ => hS1 k hk
        have e2 : curH R H (S listed) ops.size = curH R H (fun _ => true) ops.size := by
          funext t
          exact cur_congr _ _ fun k hk _ => hS1 k hk
        rw [← e1, ← e2]
        exact h4
      · -- somebody may come
        rintro listed a' w' _ hsz hr
        intro k
        induction k using Nat.strongRecOn with
        | _ k ih =>
          intro hk
          cases hh : listed.getD k true with
          | true => rfl
          | false =>
            exfalso
            have hmem : k ∈ Region.ready .any ops listed := by
              rw [mem_ready]
              refine ⟨hh, ops[k], by simp [hk], fun e he hb => ?_⟩
              have hlt := hback k ops[k] (by simp [hk]) e he hb
              have := ih e.on hlt (by omega)
              rw [Array.getD_eq_getD_getElem?] at this ⊢
              cases hh2 : listed[e.on]? with
              | none => rw [Array.getElem?_eq_none_iff] at hh2; omega
              | some b => rw [hh2] at this; simpa using this
            rw [hr] at hmem
            cases hmem
      · -- one comes
        rintro listed a' w' i ⟨h1, h2, hdown, γ, I, h4⟩ hsz hi
        obtain ⟨h0, oi, hoi, hpre⟩ := mem_ready.1 hi
        have hilt : i < ops.size := (Array.getElem?_eq_some_iff.1 hoi).1
        have hsi : S listed i = false := by
          simp only [S]
          rw [Array.getD_eq_getD_getElem?] at h0 ⊢
          cases hh : listed[i]? with
          | none => simp
          | some b => rw [hh] at h0; simpa using h0
        have hpre' : ∀ o, ops[i]? = some o → ∀ e, e ∈ o.after → Region.binds .any e = true → S listed e.on = true := fun o ho e he hb => by
          rw [hoi] at ho
          cases ho
          exact hpre e he hb
        have hbefI : ∀ k, ((befs ops.toList []).getD i 0).testBit k = true → S listed k = true := fun k hk =>
          befs_down hdown ops.toList [] (by simp) (by simp) i k hk hpre'
        have hbefK : ∀ k, ((befs ops.toList []).getD k 0).testBit i = true → S listed k = true → False := fun k hk hs => by
          have := befs_down hdown ops.toList [] (by simp) (by simp) k i hk (fun o ho e he hb => hdown k o ho hs e he hb)
          rw [hsi] at this
          cases this
        -- the temporaries that it looks at
        have hlook : ∀ t, t ∈ oi.looksAt ops → curT R τ ops (S listed) ops.size t = curT R τ ops (fun _ => true) i t := by
          intro t ht
          refine cur_read _ _ (by omega) (fun k hk hki hw => ?_) hsi
          have ⟨ok, hok', hdk⟩ : ∃ ok, ops[k]? = some ok ∧ ok.dst = some t := by
            unfold wrT at hw
            cases hh : ops[k]? with
            | none => simp [hh] at hw
            | some ok =>
              refine ⟨ok, rfl, ?_⟩
              simp [hh] at hw
              exact hw
          refine ⟨fun hlt => ?_, fun hgt => ?_⟩
          · rcases hstat k i ok oi hlt hok' hoi with hb | hap'
            · exact hbefI k hb
            · exact absurd ht ((Oper.apart_spec hap').1 t hdk)
          · cases hsk : S listed k with
            | false => rfl
            | true =>
              exfalso
              rcases hstat i k oi ok hgt hoi hok' with hb | hap'
              · exact hbefK k hb hsk
              · exact absurd ht ((Oper.apart_spec hap').2.2 t hdk)
        have hopd : ∀ x ∈ oi.op.operands, opd (curT R τ ops (S listed) ops.size) x = opd (curT R τ ops (fun _ => true) i) x := by
          intro x hx
          cases x with
          | tmp t => exact hlook t (List.mem_append_left _ (List.mem_filterMap.2 ⟨.tmp t, by simpa using hx, rfl⟩))
          | _ => rfl
        have hwant : wantV (curT R τ ops (S listed) ops.size) ops oi = wantV (curT R τ ops (fun _ => true) i) ops oi := by
          unfold wantV
          cases hg : oi.guard with
          | none => rfl
          | some gw =>
            obtain ⟨g, want⟩ := gw
            dsimp only
            cases hd : (ops[g]?).bind (·.dst) with
            | none => rfl
            | some t =>
              dsimp only
              rw [hlook t (List.mem_append_right _ (by simp [hg, hd]))]
        -- what it writes is written last
        have hnewT : ∀ t, curT R τ ops (S (listed.setIfInBounds i true)) ops.size t = (wrT R ops i t).getD (curT R τ ops (S listed) ops.size t) := by
          intro t
          refine cur_write _ _ (S := S listed) (fun k => ?_) hilt (fun hwi k hik hk hwk => ?_) hsi
          · simp only [S]
            by_cases e : k = i
            · subst e; simp [hsz, hilt]
            · rw [if_neg e, getD_set_ne false (fun h => e h.symm)]
          · have ⟨ok, hok', hdk⟩ : ∃ ok, ops[k]? = some ok ∧ ok.dst = some t := by
              unfold wrT at hwk
              cases hh : ops[k]? with
              | none => simp [hh] at hwk
              | some ok => exact ⟨ok, rfl, by simpa [hh] using hwk⟩
            have hdi : oi.dst = some t := by
              unfold wrT at hwi
              simpa [hoi] using hwi
            cases hsk : S listed k with
            | false => rfl
            | true =>
              exfalso
              rcases hstat i k oi ok hik hoi hok' with hb | hap'
              · exact hbefK k hb hsk
              · exact (Oper.apart_spec hap').2.1 t hdi hdk
        have hnewH : ∀ x, curH R H (S (listed.setIfInBounds i true)) ops.size x = (wrH R i x).getD (curH R H (S listed) ops.size x) := by
          intro x
          refine cur_write _ _ (S := S listed) (fun k => ?_) hilt (fun hwi k hik hk hwk => ?_) hsi
          · simp only [S]
            by_cases e : k = i
            · subst e; simp [hsz, hilt]
            · rw [if_neg e, getD_set_ne false (fun h => e h.symm)]
          · obtain ⟨y, hy⟩ := lastOf_mem hwi
            obtain ⟨z, hz⟩ := lastOf_mem hwk
            cases hsk : S listed k with
            | false => rfl
            | true =>
              exfalso
              rcases hpair i k hik hk with hb | hc
              · exact hbefK k hb hsk
              · simp only [clash, Bool.or_eq_false_iff, List.any_eq_false] at hc
                have := hc.1 _ hy
                simp only [Bool.or_eq_true, not_or, List.any_eq_true, not_exists, not_and] at this
                exact this.2 _ hz (by simp)
        have hdown' : Down ops (S (listed.setIfInBounds i true)) := by
          intro k ok hk hsk e he hb
          have keep : ∀ q, S listed q = true → S (listed.setIfInBounds i true) q = true := fun q hq => getD_set_true hq
          by_cases e' : k = i
          · subst e'
            exact keep _ (hpre' ok hk e he hb)
          · refine keep _ (hdown k ok hk ?_ e he hb)
            simp only [S] at hsk ⊢
            rw [getD_set_ne false (fun h => e' h.symm)] at hsk
            exact hsk
        have hdi : dstOk a'.tmps.size oi = true := by
          rw [h1]
          rw [List.all_eq_true] at hok
          exact hok oi (by simpa using Array.mem_of_getElem? hoi)
        -- the new state
        have fin : ∀ {u : Value} {w'' : World} {γ' : Places} {I' : Imm}, Sim C γ' I' (curT R τ ops (S listed) ops.size) (putH (curH R H (S listed) ops.size) (R i).δ) a'.tmps w'' → Rep I' w'' γ' (R i).v u →
            Inv (listed.setIfInBounds i true) (a'.put oi.dst u) w'' := by
          intro u w'' γ' I' hsim hrep
          have eH : putH (curH R H (S listed) ops.size) (R i).δ = curH R H (S (listed.setIfInBounds i true)) ops.size := by
            funext x
            rw [putH_last, hnewH]
            rfl
          rw [eH] at hsim
          unfold dstOk at hdi
          cases hd : oi.dst with
          | none =>
            refine ⟨h1, h2, hdown', γ', I', ?_⟩
            have eT : curT R τ ops (S (listed.setIfInBounds i true)) ops.size = curT R τ ops (S listed) ops.size := by
              funext t
              rw [hnewT]
              simp [wrT, hoi, hd]
            rw [eT]
            exact hsim
          | some d =>
            rw [hd] at hdi
            simp only [decide_eq_true_eq] at hdi
            refine ⟨by simp [Act.put, h1], h2, hdown', γ', I', ?_⟩
            have eT : curT R τ ops (S (listed.setIfInBounds i true)) ops.size = updT (curT R τ ops (S listed) ops.size) d (R i).v := by
              funext t
              rw [hnewT]
              simp only [wrT, hoi, hd, Option.bind_some, Option.some.injEq, updT]
              by_cases e : t = d
              · subst e; simp
              · rw [if_neg e, if_neg (fun h => e h.symm)]; rfl
            rw [eT]
            exact hsim.put hrep hdi
        refine wpOpR hoi ?_
        rcases hfacts i oi (by simpa using hoi) with ⟨hw, hev, hrd⟩ | ⟨hw, hv, hδ⟩
        · rw [← hwant] at hw
          rw [if_pos (wantV_sound h4 hw)]
          have hneed := (evOp_congr (P := P) (Φ := Φ) (nid := n0 + i) (h := fun _ => .dead) oi hopd).2
          have hev' : ev P Φ (n0 + i) (opd (curT R τ ops (S listed) ops.size)) (curH R H (S listed) ops.size) oi = some ((R i).v, (R i).δ) := by
            rw [← hev]
            unfold ev
            have eO : only (need (n0 + i) (opd (curT R τ ops (S listed) ops.size)) oi) (curH R H (S listed) ops.size) =
                only (need (n0 + i) (opd (curT R τ ops (fun _ => true) i)) oi) (curH R H (fun _ => true) i) := by
              funext x
              rw [hneed]
              unfold only
              split
              · rename_i hx
                refine cur_read _ _ (by omega) (fun k hk hki hwk => ?_) hsi
                obtain ⟨z, hz⟩ := lastOf_mem hwk
                have hxr : x ∈ (R i).rd := by rw [hrd]; simpa using hx
                refine ⟨fun hlt => ?_, fun hgt => ?_⟩
                · rcases hpair k i hlt hilt with hb | hc
                  · exact hbefI k hb
                  · exfalso
                    simp only [clash, Bool.or_eq_false_iff, List.any_eq_false] at hc
                    have := hc.1 _ hz
                    simp only [Bool.or_eq_true, not_or] at this
                    exact this.1 (by simpa using hxr)
                · cases hsk : S listed k with
                  | false => rfl
                  | true =>
                    exfalso
                    rcases hpair i k hgt hk with hb | hc
                    · exact hbefK k hb hsk
                    · simp only [clash, Bool.or_eq_false_iff, List.any_eq_false] at hc
                      exact hc.2 _ hz (by simpa using hxr)
              · rfl
            rw [eO]
            exact (evOp_congr oi hopd).1
          exact ev_sound hΦ h4 hev' _ _ _ fun u w'' γ' I' hs' hr => fin hs' hr
        · rw [← hwant] at hw
          rw [if_neg (by rw [wantV_sound h4 hw]; simp)]
          refine fin (γ' := γ) (I' := I) ?_ ?_
          · rw [hδ]; exact h4
          · rw [hv]; exact .sc _ _
      · -- the start
        refine ⟨hn, hds, fun k o _ hs => ?_, γ0, I0, ?_⟩
        · simp only [S] at hs
          rw [Array.getD_eq_getD_getElem?] at hs
          cases hh : (Array.replicate ops.size false)[k]? with
          | none => rw [hh] at hs; simp at hs
          | some b =>
            rw [hh] at hs
            simp [Array.getElem?_replicate] at hh
            simp at hs
            rw [hh.2] at hs
            cases hs
        · have hS0 : ∀ k, S (Array.replicate ops.size false) k = false := fun k => by
            simp only [S]
            rw [Array.getD_eq_getD_getElem?, Array.getElem?_replicate]
            split <;> rfl
          have e1 : curT R τ ops (S (Array.replicate ops.size false)) ops.size = τ := by
            funext t
            exact cur_cut _ _ (i := 0) (by omega) fun k _ _ _ => hS0 k
          have e2 : curH R H (S (Array.replicate ops.size false)) ops.size = H := by
            funext t
            exact cur_cut _ _ (i := 0) (by omega) fun k _ _ _ => hS0 k
          rw [e1, e2]
          exact hS.drawn _
end Go.Idl
namespace Go.Idl
set_option linter.all false
open Go.RowKit
variable [Laid]
def evReg (P : Program) (Φ : Specs) (ops : Array Oper) (d : Bool) (s : St) : Option St :=
  if d then evDraw P Φ ops s else evSeq P Φ ops ops.toList s
def okCode (n : Nat) : Code → Bool
  | .region _ ops d => ops.toList.all (dstOk n) && (!d || drawOk ops)
  | .seq x y => okCode n x && okCode n y
  | .cond _ x y => okCode n x && okCode n y
  | .block _ b => okCode n b
  | .loop b => okCode n b
  | .scope b => okCode n b
  | .rangeFunc _ ps x y => ps.toList.all (fun p => decide (p < n)) && (okCode n x && okCode n y)
  | .skip => true
  | .exit _ => true
  | .ret => true
  | .label _ => true
  | _ => false
theorem stepR_scope {P : Program} {b : Frame} {a : Act} {k : List Item} {cs : List Frame} {w : World} {c : Code} : step P (lone (b.atR a (.code (.scope c) :: k)) cs w) = .next (lone (b.atR a (.code c :: .inScope c :: k)) cs w) :=
  step_lone_go (by simp [stepG, stepG.exec, Frame.atR])
theorem stepR_inScope {P : Program} {b : Frame} {a : Act} {k : List Item} {cs : List Frame} {w : World} {c : Code} : step P (lone (b.atR a (.inScope c :: k)) cs w) = .next (lone (b.atR a k) cs w) :=
  step_lone_go (by simp [stepG, stepG.exec, Frame.atR])
def noGotoW (Q : Exit → Act → World → Prop) : Exit → Act → World → Prop
  | .goto _, _, _ => False
  | e, a, w => Q e a w
theorem wpIn_scope {P : Program} {F : Fence} {n : Nat} {c : Code} {Q : Exit → Act → World → Prop} {a : Act} {w : World} (h : c.wpIn F n P (noGotoW Q) a w) : (Code.scope c).wpIn F n P Q a w := by
  intro b k cs hro hb hr
  have h0 : (lone (b.atR a (.code (.scope c) :: k)) cs w).fenced P F := fenced_calm hb hr rfl
  obtain ⟨e, a₁, w₁, hq, harr⟩ := h b (.inScope c :: k) cs hro hb hr
  cases e with
  | normal => exact ⟨.normal, a₁, w₁, hq, .head h0 stepR_scope (StepsIn.trans harr (.one (fenced_calm hb hr rfl) stepR_inScope))⟩
  | exit id' =>
    have hx : exitTo id' (.inScope c :: k) = exitTo id' k := by simp [exitTo]
    exact ⟨.exit id', a₁, w₁, hq, fun k' hk => .head h0 stepR_scope (harr.1 k' (by rw [hx]; exact hk)),
        fun hr' hk => let ⟨k₁, h1, h2⟩ := harr.2 hr' (by rw [hx]; exact hk); ⟨k₁, h1, .head h0 stepR_scope h2⟩⟩
  | goto l => exact hq.elim
  | ret => exact ⟨_, a₁, w₁, hq, .of_steps (.one h0 stepR_scope) harr⟩
  | panic ch => exact ⟨_, a₁, w₁, hq, .of_steps (.one h0 stepR_scope) harr⟩
  | outgrown => exact ⟨_, a₁, w₁, hq, .of_steps (.one h0 stepR_scope) harr⟩
structure Good (P : Program) (Φ : Specs) : Prop where
  met : Met P Φ
  orders : P.follows .mixedOrders = true
def Tri (P : Program) (C : Ctx) (n : Nat) (c : Code) (s : St) (Q : Exit → St → Prop) : Prop :=
  okCode n c = true → ∀ a w, a.tmps.size = n → a.defers = [] → SimS C s a w →
    c.wpIn (rf none) 0 P (fun e a' w' => a'.tmps.size = n ∧ a'.defers = [] ∧ ∃ s', Q e s' ∧ SimS C s' a' w') a w
variable {P : Program} {C : Ctx} {n : Nat} {s : St} {Q : Exit → St → Prop}
def andThen (K : St → Prop) (Q : Exit → St → Prop) : Exit → St → Prop
  | .normal, s => K s
  | e, s => Q e s
theorem Tri.seq {x y : Code} (h : Tri P C n x s (andThen (fun s' => Tri P C n y s' Q) Q)) : Tri P C n (.seq x y) s Q := by
  intro hok a w hn hd hS
  simp only [okCode, Bool.and_eq_true] at hok
  refine wpIn_seq (wpIn_mono (h hok.1 a w hn hd hS) ?_)
  rintro e a' w' ⟨h1, h2, s', h3, h4⟩
  cases e with
  | normal => exact h3 hok.2 a' w' h1 h2 h4
  | _ => exact ⟨h1, h2, s', h3, h4⟩
def inBlock (id : Nat) (Q : Exit → St → Prop) : Exit → St → Prop
  | .exit id', s => if id' = id then Q .normal s else Q (.exit id') s
  | e, s => Q e s
theorem wpIn_loop_idx {F : Fence} {n : Nat} {c : Code} {Q : Exit → Act → World → Prop} {a : Act} {w : World} (J : Nat → Act → World → Prop) {m : Nat} (h₀ : J m a w)
    (round : ∀ m a w, J m a w → c.wpIn F n P (Exit.then (fun a' w' => ∃ k, k < m ∧ J k a' w') Q) a w) : (Code.loop c).wpIn F n P Q a w := by
  intro b k cs hro hb hr
  have key : ∀ m a w, J m a w → ∃ e a' w', Q e a' w' ∧ ArrivesIn (Machine.fenced P F) P (lone (b.atR a (.code c :: .inLoop c :: k)) cs w) b k cs e a' w' := by
    intro m
    induction m using Nat.strongRecOn with
    | _ m ih =>
      intro a w hJ
      obtain ⟨e, a₁, w₁, hq, harr⟩ := round m a w hJ b (.inLoop c :: k) cs hro hb hr
      cases e with
      | normal =>
        obtain ⟨m', hlt, hJ'⟩ := hq
        obtain ⟨e₂, a₂, w₂, hq₂, harr₂⟩ := ih m' hlt a₁ w₁ hJ'
        exact ⟨e₂, a₂, w₂, hq₂, .of_steps (StepsIn.trans harr (.one (fenced_calm hb hr rfl) stepR_inLoop)) harr₂⟩
      | exit id => exact ⟨_, a₁, w₁, hq, .pass (x := .inLoop c) rfl (fun _ _ => .inl (by simp)) harr⟩
      | goto l => exact ⟨_, a₁, w₁, hq, .pass (x := .inLoop c) rfl (fun _ _ => .inl (by simp)) harr⟩
      | ret => exact ⟨_, a₁, w₁, hq, .pass (x := .inLoop c) rfl (fun _ _ => .inl (by simp)) harr⟩
      | panic ch => exact ⟨_, a₁, w₁, hq, .pass (x := .inLoop c) rfl (fun _ _ => .inl (by simp)) harr⟩
      | outgrown => exact ⟨_, a₁, w₁, hq, .pass (x := .inLoop c) rfl (fun _ _ => .inl (by simp)) harr⟩
  obtain ⟨e, a', w', hq, harr⟩ := key _ a w h₀
  exact ⟨e, a', w', hq, .of_steps (.one (fenced_calm hb hr rfl) stepR_loop) harr⟩
def resOne (P : Program) (s : St) : ResultVar → Option V
  | .tmp t => some (getT s.τ t)
  | .cell x t => evLoad P (getO s.H) t (getT s.τ x)
def resL (P : Program) (s : St) : List ResultVar → Option (List V)
  | [] => some []
  | r :: rs => match resOne P s r, resL P s rs with
    | some x, some xs => some (x :: xs)
    | _, _ => none
def resV (P : Program) (fn : Func) (s : St) : Option V :=
  (resL P s fn.results.toList).bind fun xs => (freezes (getO s.H) xs).map fun
    | [x] => x
    | ys => .tup ys
end Go.Idl
namespace Go.Idl
set_option linter.all false
open Go.RowKit
variable [Laid]
variable {P : Program} {C : Ctx} {γ : Places} {I : Imm} {τ : Nat → V} {H : Heap} {tm : Array Value} {w : World}
theorem load_run (hS : Sim C γ I τ H tm w) {t : TypeId} {x v : V} {ux : Value} (h : evLoad P H t x = some v) (hx : Rep I w γ x ux) :
    ∃ g y u, ux = .pointer (some ⟨g, y, none⟩) ∧ (loadVar t ⟨g, y, none⟩).run P w = .ok u w ∧ Rep I w γ v u := by
  unfold evLoad at h
  split at h
  · rename_i id idx off
    split at h
    · rename_i sz es mu hl
      cases he : es[idx]? with
      | none => simp [he] at h
      | some e =>
        simp only [he, Option.bind_some] at h
        rcases hS.obj id sz es mu hl with h0 | ⟨p, c, t', ho'⟩
        · rw [h0.1] at he; simp at he
        · cases hx with
          | ref _ _ _ _ q hq =>
            rw [ho'.place] at hq
            cases hq
            obtain ⟨f, hf1, hf2⟩ := ho'.elem he
            obtain ⟨y, hy, hr⟩ := run_readC (w := w) (γ := γ) (I := I) h hf1 hf2
            rw [ho'.size]
            exact ⟨_, _, y, rfl, hy, hr⟩
    · cases h
  · rename_i e off
    cases hx with
    | elem _ _ _ g b f hc hh =>
      obtain ⟨y, hy, hr⟩ := run_readC (w := w) (γ := noPlaces) (I := I) h (fun j hj => (hc j hj).2) hh
      exact ⟨_, _, y, rfl, hy, hr.mono (Pres.refl I w) (fun _ _ h => h) (by simp [noPlaces])⟩
  · cases h
def resM (tm : Array Value) : ResultVar → Sem Value
  | .tmp t => pure (tm.getD t undef)
  | .cell a t => do loadVar t (← asAddr (tm.getD a undef))
theorem results_eq (fn : Func) (tm : Array Value) : results fn tm = (do let vs ← fn.results.mapM (resM tm); pure (if h : vs.size = 1 then vs[0] else .tuple vs)) := by
  unfold results
  congr 1
theorem resL_run {s : St} (hS : Sim C γ I (getT s.τ) (getO s.H) tm w) : ∀ (rs : List ResultVar) (xs : List V), resL P s rs = some xs →
    ∃ vs : List Value, (rs.mapM (resM tm)).run P w = .ok vs w ∧ xs.length = vs.length ∧ ∀ (j : Nat) (x : V) (u : Value), xs[j]? = some x → vs[j]? = some u → Rep I w γ x u
  | [], xs, h => by
    simp [resL] at h
    subst h
    exact ⟨[], rfl, rfl, by simp⟩
  | r :: rs, xs, h => by
    simp only [resL] at h
    split at h
    · rename_i x xs' h1 h2
      cases h
      obtain ⟨vs, hv1, hv2, hv3⟩ := resL_run hS rs xs' h2
      have fin : ∀ {u : Value}, (resM tm r).run P w = .ok u w → Rep I w γ x u →
          ∃ vs : List Value, ((r :: rs).mapM (resM tm)).run P w = .ok vs w ∧ (x :: xs').length = vs.length ∧ ∀ (j : Nat) (x0 : V) (u : Value), (x :: xs')[j]? = some x0 → vs[j]? = some u → Rep I w γ x0 u := by
        intro u hu hr
        refine ⟨u :: vs, ?_, by simp [hv2], fun j x0 u0 hx hu0 => ?_⟩
        · rw [List.mapM_cons]
          simp only [Sem.run_bind, hu, hv1, Result.andThen_ok, Sem.run_pure]
        · cases j with
          | zero => simp at hx hu0; subst hx hu0; exact hr
          | succ j => exact hv3 j x0 u0 (by simpa using hx) (by simpa using hu0)
      cases r with
      | tmp t =>
        simp only [resOne, Option.some.injEq] at h1
        subst h1
        exact fin (u := tm.getD t undef) rfl (hS.tmp t)
      | cell a t =>
        simp only [resOne] at h1
        obtain ⟨g, y, u, hu, hl, hr⟩ := load_run hS h1 (hS.tmp a)
        refine fin (u := u) ?_ hr
        simp only [resM]
        rw [hu]
        simp [asAddr, hl]
    · cases h
theorem resV_run {fn : Func} {s : St} {r : V} (hS : Sim C γ I (getT s.τ) (getO s.H) tm w) (h : resV P fn s = some r) :
    ∃ u I', (results fn tm).run P w = .ok u w ∧ Rep I' w noPlaces r u ∧ (∀ g x, I' g x → C.I0 g x ∨ (C.w0.heap.size ≤ g ∧ g < w.heap.size)) := by
  unfold resV at h
  cases hl : resL P s fn.results.toList with
  | none => simp [hl] at h
  | some xs =>
    simp only [hl, Option.bind_some, Option.map_eq_some_iff] at h
    obtain ⟨ys, hfz, hr⟩ := h
    obtain ⟨vs, hv1, hv2, hv3⟩ := resL_run hS _ _ hl
    obtain ⟨⟨I', hI', hS'⟩, hlast⟩ := Sim.froze (getO s.H) (xs.flatMap V.ids) hS (fun id sz es hl => ⟨true, hl⟩)
    obtain ⟨hf1, hf2⟩ := freezes_get hfz
    -- the objects that are looked at
    have hfix : ∀ x, x ∈ xs → ∀ y u, freeze (getO s.H) x = some y → Rep I w γ x u → Rep I' w noPlaces y u := by
      intro x hx y u hy hu
      have hids : ∀ id, id ∈ x.ids → id ∈ xs.flatMap V.ids := fun id hid => List.mem_flatMap.2 ⟨x, hx, hid⟩
      have hu' : Rep I' w γ x u := hu.mono (Pres.refl I w) hI' fun _ _ h => h
      -- one cell
      have one : ∀ (c d : V) (uc : Value), (∀ id, id ∈ c.idsC → id ∈ xs.flatMap V.ids) → freezeC (getO s.H) c = some d → Rep I' w γ c uc → Rep I' w noPlaces d uc := by
        intro c d uc hc hd huc
        have hh : freezeC (fun y => if y ∈ c.idsC then getO s.H y else .dead) c = some d := by
          cases c with
          | own id off len => simpa [freezeC, V.idsC] using hd
          | _ => first | (simp [freezeC] at hd; done) | simpa [freezeC] using hd
        refine freezeC_rep hS' (h := fun y => if y ∈ c.idsC then getO s.H y else .dead) (fun id sz es mu hlv hall => ?_) hh huc
        split at hlv
        · rename_i hm
          refine hlast id sz es mu hlv ?_
          cases mu with
          | false => exact .inl rfl
          | true => exact .inr ⟨hc id hm, hlv, hall⟩
        · cases hlv
      cases x with
      | agg cs =>
        simp only [freeze, Option.map_eq_some_iff] at hy
        obtain ⟨zs, hzs, rfl⟩ := hy
        obtain ⟨g1, g2⟩ := freezeL_get hzs
        cases hu' with
        | agg _ _ us hlen hh' =>
          refine .agg _ _ _ (by omega) fun j c z hc hz => ?_
          obtain ⟨c0, hc0, hfc⟩ := g2 j c hc
          refine one c0 c z (fun id hid => hids id ?_) hfc (hh' j c0 z hc0 hz)
          simp only [V.ids, List.mem_flatMap]
          exact ⟨c0, List.mem_of_getElem? hc0, hid⟩
      | own id off len => exact one (.own id off len) _ _ hids (by simpa only [freeze] using hy) hu'
      | _ => exact one _ _ _ (by simp [V.idsC]) (by simpa only [freeze] using hy) hu'
    have hrep : ∀ (j : Nat) (y : V) (u : Value), ys[j]? = some y → vs[j]? = some u → Rep I' w noPlaces y u := by
      intro j y u hy hu
      obtain ⟨x, hx, hfx⟩ := hf2 j y hy
      exact hfix x (List.mem_of_getElem? hx) y u hfx (hv3 j x u hx hu)
    have hrun : (fn.results.mapM (resM tm)).run P w = .ok vs.toArray w := by
      rw [Array.mapM_eq_mapM_toList]
      simp only [Functor.map, Sem.run_bind', hv1, Result.andThen_ok]
      rfl
    refine ⟨if h : vs.toArray.size = 1 then vs.toArray[0] else .tuple vs.toArray, I', ?_, ?_, fun g x hx => ?_⟩
    · rw [results_eq]
      simp only [Sem.run_bind, hrun, Result.andThen_ok, Sem.run_pure]
    · have hlen : ys.length = vs.length := by omega
      subst hr
      split
      · rename_i x
        have h1 : vs.length = 1 := by simpa using hlen.symm
        rw [dif_pos (by simpa using h1)]
        refine hrep 0 x _ rfl ?_
        simp
      · rename_i hne
        have h1 : ¬ vs.toArray.size = 1 := by
          intro h1
          simp at h1
          rw [h1] at hlen
          obtain ⟨x, rfl⟩ := List.length_eq_one_iff.1 hlen
          exact hne x rfl
        rw [dif_neg h1]
        exact .tup _ _ _ (by simpa using hlen) fun j c u hc hu => hrep j c u hc (by simpa using hu)
    · rcases hS'.immB g x hx with h1 | h1
      · exact .inl h1
      · exact .inr ⟨h1, hS'.immS g x hx⟩
theorem start_sim {args : Array Value} {xs : List V} {n : Nat} (hlen : xs.length = args.size) (hr : ∀ (j : Nat) (x : V) (u : Value), xs[j]? = some x → args[j]? = some u → Rep C.I0 C.w0 noPlaces x u)
    (hI : ∀ g x, C.I0 g x → g < C.w0.heap.size) (hk : C.keep = []) : SimS C ⟨xs, []⟩ { tmps := args ++ Array.replicate n undef, defers := [] } C.w0 := by
  have get : ∀ (l : List V) (t : Nat), getT l t = (l[t]?).getD .any := by
    intro l
    induction l with
    | nil => intro t; simp [getT]
    | cons x l ih => intro t; cases t <;> simp [getT, ih]
  refine ⟨noPlaces, C.I0, {
    below := Bel.refl _ _
    imm0 := fun _ _ h => h
    immB := fun _ _ h => .inl h
    immS := hI
    tmp := fun t => ?_
    kept := fun fr hf => by rw [hk] at hf; cases hf
    dom := by simp [noPlaces]
    obj := by simp [getO]
    ext := by simp [getO]
    inj := by simp [noPlaces] }⟩
  simp only [get]
  by_cases ht : t < args.size
  · have hx : xs[t]? = some xs[t] := List.getElem?_eq_getElem (by omega)
    have hu : args[t]? = some args[t] := by simp [ht]
    rw [hx, Option.getD_some]
    have := hr t _ _ hx hu
    simpa [Array.getElem?_append_left ht, hu] using this
  · rw [List.getElem?_eq_none (by omega)]
    exact .any _ _
end Go.Idl
namespace Go.Idl
set_option linter.all false
open Go.RowKit
variable [Laid]
def run (P : Program) (Φ : Specs) : Nat → Code → St → Option (Exit × St)
  | 0, _, _ => none
  | f + 1, c, s => match c with
    | .skip => some (.normal, s)
    | .label _ => some (.normal, s)
    | .region _ ops d => match evReg P Φ ops d s with
      | some s' => some (.normal, s')
      | none => none
    | .seq x y => match run P Φ f x s with
      | some (.normal, s') => run P Φ f y s'
      | r => r
    | .cond c x y => match opd (getT s.τ) c with
      | .sc (.bool t) => run P Φ f (if t then x else y) s
      | _ => none
    | .block id b => match run P Φ f b s with
      | some (.exit id', s') => if id' = id then some (.normal, s') else some (.exit id', s')
      | r => r
    | .loop b => match run P Φ f b s with
      | some (.normal, s') => run P Φ f (.loop b) s'
      | r => r
    | .exit id => some (.exit id, s)
    | .ret => some (.ret, s)
    | _ => none
variable {P : Program} {C : Ctx} {n : Nat}
def enters (P : Program) (f : FuncId) : Bool := match P.funcs[f]? with
  | some fn => fn.body.isSome && fn.name != "runtime.NumGoroutine"
  | none => false
theorem enters_run {f : FuncId} (h : enters P f = true) (args : Array Value) (w : World) : (callFunc f args).run P w = .ok (.enter f args) w := by
  unfold enters at h
  split at h
  · rename_i fn hf
    simp only [Bool.and_eq_true, bne_iff_ne, ne_eq] at h
    obtain ⟨c, hc⟩ := Option.isSome_iff_exists.1 h.1
    simp [callFunc, program, Sem.run, hf, h.2, hc]
  · cases h
theorem good_none (h : P.follows .mixedOrders = true) : Good P (fun _ => none) := ⟨fun _ _ h => by simp at h, h⟩
end Go.Idl
namespace Go.Idl
set_option linter.all false
open Go.RowKit
variable [Laid]
structure SF where
  τ : Nat → V
  H : Nat → Obj
  n : Nat
def SimF (C : Ctx) (s : SF) (a : Act) (w : World) : Prop := ∃ γ I, Sim C γ I s.τ s.H a.tmps w
def prune (K : List Nat) (τ : Nat → V) : Nat → V := fun t => if K.contains t then τ t else .any
theorem prune_upd (K : List Nat) (τ : Nat → V) (d : Nat) (v : V) : prune K (updT τ d v) = if K.contains d = true then updT (prune K τ) d v else prune K τ := by
  funext t
  unfold prune updT
  cases hd : K.contains d with
  | true =>
    simp only [if_true]
    by_cases e : t = d
    · subst e; simp only [hd, if_true]
    · simp only [if_neg e]
  | false =>
    simp only [Bool.false_eq_true, if_false]
    by_cases e : t = d
    · subst e; simp only [hd, Bool.false_eq_true, if_false]
    · simp only [if_neg e]
theorem prune_prune (K : List Nat) (τ : Nat → V) : prune K (prune K τ) = prune K τ := by
  funext t
  unfold prune
  cases h : K.contains t <;> simp
def bump (n : Nat) : List (Nat × Obj) → Nat
  | [] => n
  | _ => n + 1
def CallT (P : Program) (C : Ctx) (f : FuncId) (vs : List V) (s : SF) (K : V → SF → Prop) : Prop :=
  enters P f = true ∧ ∀ (tm : Array Value) (w : World) (γ : Places) (I : Imm) (args : Array Value), Sim C γ I s.τ s.H tm w → vs.length = args.size →
    (∀ (j : Nat) (x : V) (u : Value), vs[j]? = some x → args[j]? = some u → Rep I w γ x u) →
    Calls P f args w fun e w' => ∃ u v s', e = .returned u ∧ K v s' ∧ ∃ γ' I', Sim C γ' I' s.τ s'.H tm w' ∧ Rep I' w' γ' v u
theorem CallT.mono {P : Program} {C : Ctx} {f : FuncId} {vs : List V} {s : SF} {K K' : V → SF → Prop} (h : CallT P C f vs s K) (hk : ∀ v s', K v s' → K' v s') : CallT P C f vs s K' :=
  ⟨h.1, fun tm w γ I args h1 h2 h3 => (h.2 tm w γ I args h1 h2 h3).mono fun _ _ ⟨u, v, s', e1, e2, e3⟩ => ⟨u, v, s', e1, hk v s' e2, e3⟩⟩
def fnOf : V → Option (FuncId × List V × List V)
  | .sc (.func (.func f) a b) => if a.size = 0 ∧ b.size = 0 then some (f, [], []) else none
  | .fn (.func f) xs ys => some (f, xs, ys)
  | _ => none
def yieldOf : V → Option Nat
  | .sc (.func (.yield l) a b) => if a.size = 0 ∧ b.size = 0 then some l else none
  | _ => none
def YieldT (P : Program) (C : Ctx) (l : Nat) (vs : List V) (s : SF) (K : V → SF → Prop) : Prop :=
  ∀ (tm : Array Value) (w : World) (γ : Places) (I : Imm) (args : Array Value), Sim C γ I s.τ s.H tm w → vs.length = args.size →
    (∀ (j : Nat) (x : V) (u : Value), vs[j]? = some x → args[j]? = some u → Rep I w γ x u) →
    ∃ f tmps assign body, (Instr.yield l args).run P w = .ok (.round l f tmps assign body) w ∧
      RoundIn (rf none) 0 P l f tmps assign body w fun e w' => ∃ u v s', e = .returned u ∧ K v s' ∧ ∃ γ' I', Sim C γ' I' s.τ s'.H tm w' ∧ Rep I' w' γ' v u
theorem YieldT.mono {P : Program} {C : Ctx} {l : Nat} {vs : List V} {s : SF} {K K' : V → SF → Prop} (h : YieldT P C l vs s K) (hk : ∀ v s', K v s' → K' v s') : YieldT P C l vs s K' :=
  fun tm w γ I args h1 h2 h3 => by
    obtain ⟨f, tmps, assign, body, e1, e2⟩ := h tm w γ I args h1 h2 h3
    exact ⟨f, tmps, assign, body, e1, e2.mono fun _ _ ⟨u, v, s', k1, k2, k3⟩ => ⟨u, v, s', k1, hk v s' k2, k3⟩⟩
def inlV (P : Program) (C : Ctx) (vs : List V) (s : SF) (K : V → SF → Prop) (x : V) : Prop := match fnOf x with
  | some (f, xs, ys) => CallT P C f (xs ++ vs ++ ys) s K
  | none => match yieldOf x with
    | some l => YieldT P C l vs s K
    | none => False
theorem inlV_mono0 {P : Program} {C : Ctx} {vs : List V} {s : SF} {K K' : V → SF → Prop} (hk : ∀ v s', K v s' → K' v s') {x : V} (h : inlV P C vs s K x) : inlV P C vs s K' x := by
  unfold inlV at h ⊢
  split
  · rename_i f xs ys hf; rw [hf] at h; exact h.mono hk
  · rename_i hf
    rw [hf] at h
    dsimp only at h
    split
    · rename_i l hl; rw [hl] at h; exact h.mono hk
    · rename_i hl; rw [hl] at h; exact h
def lean (o : Oper) : Oper := { dst := none, op := o.op, type := o.type, pos := "", after := #[], guard := none }
theorem lean_exec (ρ : Operand → Value) (o : Oper) : execOp ρ (lean o) = execOp ρ o := rfl
def OpT (P : Program) (C : Ctx) (o : Oper) (s : SF) (K : V → SF → Prop) : Prop :=
  ∀ (tm : Array Value) (ds : List Deferred) (w : World) (γ : Places) (I : Imm), Sim C γ I s.τ s.H tm w →
    (∃ u w' v s' γ' I', (execOp (Act.eval ⟨tm, ds⟩) o).run P w = .ok (.value u) w' ∧ K v s' ∧ Sim C γ' I' s.τ s'.H tm w' ∧ Rep I' w' γ' v u) ∨
    (∃ w' s' γ' I', (execOp (Act.eval ⟨tm, ds⟩) o).run P w = .ok .skip w' ∧ K .any s' ∧ Sim C γ' I' s.τ s'.H tm w')
theorem OpT.mono {P : Program} {C : Ctx} {o : Oper} {s : SF} {K K' : V → SF → Prop} (h : OpT P C o s K) (hk : ∀ v s', K v s' → K' v s') : OpT P C o s K' := fun tm ds w γ I hS => by
  rcases h tm ds w γ I hS with ⟨u, w', v, s', γ', I', h1, h2, h3⟩ | ⟨w', s', γ', I', h1, h2, h3⟩
  · exact .inl ⟨u, w', v, s', γ', I', h1, hk _ _ h2, h3⟩
  · exact .inr ⟨w', s', γ', I', h1, hk _ _ h2, h3⟩
def inlO (P : Program) (C : Ctx) (ρ : Operand → V) (o : Oper) (s : SF) (K : V → SF → Prop) : Prop := match o.op with
  | .call c => match c.callee with
    | .value x => inlV P C (c.args.toList.map ρ) s K (ρ x) ∨ OpT P C (lean o) s K
    | .builtin _ => OpT P C (lean o) s K
    | _ => False
  | _ => OpT P C (lean o) s K
def wpSeq (P : Program) (Φ : Specs) (C : Ctx) (ops : Array Oper) (Q : SF → Prop) : List Oper → SF → Prop
  | [], s => Q s
  | o :: rest, s => match wantV s.τ ops o with
    | some b => (b = true → (match ev P Φ s.n (opd s.τ) s.H o with
        | some (v, δ) => wpSeq P Φ C ops Q rest ⟨putF s.τ o.dst v, putH s.H δ, bump s.n δ⟩
        | none => False) ∨ inlO P C (opd s.τ) o s fun v s' => wpSeq P Φ C ops Q rest ⟨putF s.τ o.dst v, s'.H, s'.n⟩) ∧
      (b = false → wpSeq P Φ C ops Q rest ⟨putF s.τ o.dst (.sc undef), s.H, s.n⟩)
    | none => False
def fullFrom (bef : List Nat) (i : Nat) : Bool := (List.range bef.length).all fun j => decide (j < i) || bef.getD j 0 == 2 ^ j - 1
def wpDraw (P : Program) (Φ : Specs) (C : Ctx) (ops : Array Oper) (n0 : Nat) (Q : SF → Prop) : List Oper → Nat → List Rec → SF → Prop
  | [], i, acc, s => apartAll (befs ops.toList []) acc.reverse = true ∧ Q ⟨s.τ, s.H, n0 + i⟩
  | o :: rest, i, acc, s => match wantV s.τ ops o with
    | some b => (b = true → (match ev P Φ (n0 + i) (opd s.τ) s.H o with
        | some (v, δ) => wpDraw P Φ C ops n0 Q rest (i + 1) (⟨.any, δ.map fun p => (p.1, .dead), need (n0 + i) (opd s.τ) o⟩ :: acc) ⟨putF s.τ o.dst v, putH s.H δ, s.n⟩
        | none => False) ∨ (fullFrom (befs ops.toList []) i = true ∧ apartAll (befs ops.toList []) acc.reverse = true ∧ inlO P C (opd s.τ) o ⟨s.τ, s.H, n0 + i⟩ fun v s' => wpSeq P Φ C ops Q rest ⟨putF s.τ o.dst v, s'.H, s'.n⟩)) ∧
      (b = false → wpDraw P Φ C ops n0 Q rest (i + 1) (⟨.any, [], []⟩ :: acc) ⟨putF s.τ o.dst (.sc undef), s.H, s.n⟩)
    | none => False
def TriF (P : Program) (C : Ctx) (n : Nat) (c : Code) (s : SF) (Q : Exit → SF → Prop) : Prop :=
  okCode n c = true → ∀ (ds : List Deferred) a w, a.tmps.size = n → a.defers = ds → SimF C s a w →
    c.wpIn (rf C.rnd) 0 P (fun e a' w' => a'.tmps.size = n ∧ a'.defers = ds ∧ ∃ s', Q e s' ∧ SimF C s' a' w') a w
def LeF (C : Ctx) (s s' : SF) : Prop := ∀ a w, SimF C s a w → SimF C s' a w
theorem LeF.trans {C : Ctx} {s s' s'' : SF} (h : LeF C s s') (h' : LeF C s' s'') : LeF C s s'' := fun a w hh => h' a w (h a w hh)
theorem LeF.forget {C : Ctx} {s s' : SF} (hH : s'.H = s.H) (h : ∀ t, s'.τ t = .any ∨ s'.τ t = s.τ t) : LeF C s s' := by
  rintro a w ⟨γ, I, hS⟩
  refine ⟨γ, I, ?_⟩
  rw [hH]
  exact hS.forget h
theorem LeF.prune {C : Ctx} (K : List Nat) (s : SF) : LeF C s ⟨Idl.prune K s.τ, s.H, s.n⟩ := .forget rfl fun t => by
  unfold Idl.prune
  dsimp only
  split
  · exact .inr rfl
  · exact .inl rfl
variable {P : Program} {C : Ctx} {n : Nat} {s : SF} {Q : Exit → SF → Prop}
theorem TriF.mono {c : Code} {Q' : Exit → SF → Prop} (h : TriF P C n c s Q) (hq : ∀ e s, Q e s → Q' e s) : TriF P C n c s Q' :=
  fun hok ds a w hn hd hS => wpIn_mono (h hok _ a w hn hd hS) fun e a' w' ⟨h1, h2, s', h3, h4⟩ => ⟨h1, h2, s', hq _ _ h3, h4⟩
theorem inlO_sound {r : Option Nat} {τ : Nat → V} {H : Heap} {γ : Places} {I : Imm} {a : Act} {w : World} {o : Oper} {m : Nat} (hS : Sim C γ I τ H a.tmps w) {K0 : V → SF → Prop} (h : inlO P C (opd τ) o ⟨τ, H, m⟩ K0) (K : Act → World → Prop) (Q : Exit → Act → World → Prop)
    (hK : ∀ u w' γ' I' v s', K0 v s' → Sim C γ' I' τ s'.H a.tmps w' → Rep I' w' γ' v u → K (a.put o.dst u) w') : o.wpIn (rf r) 0 P a w K Q := by
  have byOp : OpT P C (lean o) ⟨τ, H, m⟩ K0 → o.wpIn (rf r) 0 P a w K Q := fun h => by
    have h := h a.tmps a.defers w γ I hS
    rw [lean_exec] at h
    rcases h with ⟨u, w', v, s', γ', I', h1, h2, h3, h4⟩ | ⟨w', s', γ', I', h1, h2, h3⟩
    · exact wpIn_of_run h1 (by simp) (by simp) (hK u w' γ' I' v s' h2 h3 h4)
    · exact wpIn_of_run h1 (by simp) (by simp) (hK _ w' γ' I' .any s' h2 h3 (.any _ _))
  unfold inlO at h
  split at h
  · rename_i c ho
    split at h
    · rename_i x hc
      rcases h with h | h
      case inr => exact byOp h
      unfold inlV at h
      split at h
      · rename_i f xs ys hf
        obtain ⟨hent, h⟩ := h
        have hx : Rep I w γ (opd τ x) (a.eval x) := hS.opd a.defers x
        -- the value called
        have key : ∃ us vs : Array Value, a.eval x = .func (.func f) us vs ∧ xs.length = us.size ∧ ys.length = vs.size ∧ (∀ (j : Nat) (x : V) (u : Value), xs[j]? = some x → us[j]? = some u → Rep I w γ x u) ∧ (∀ (j : Nat) (x : V) (u : Value), ys[j]? = some x → vs[j]? = some u → Rep I w γ x u) := by
          generalize a.eval x = ux at hx ⊢
          unfold fnOf at hf
          split at hf
          · rename_i f' us vs hv
            rw [hv] at hx
            split at hf
            · rename_i hz
              cases hf
              have hu : us = #[] := Array.eq_empty_of_size_eq_zero hz.1
              have hv' : vs = #[] := Array.eq_empty_of_size_eq_zero hz.2
              subst hu hv'
              exact ⟨#[], #[], hx.sc_eq, rfl, rfl, by simp, by simp⟩
            · cases hf
          · rename_i f' xs' ys' hv
            rw [hv] at hx
            cases hf
            cases hx with
            | fn _ _ _ _ us vs e1 e2 e3 e4 => exact ⟨us, vs, rfl, e1, e2, e3, e4⟩
          · cases hf
        obtain ⟨us, vs, hev, l1, l2, r1, r2⟩ := key
        have hrun : (execOp a.eval o).run P w = .ok (.enter f (us ++ c.args.map a.eval ++ vs)) w := by
          simp [execOp, ho, resolve, hc, hev, Deferred.ofValue, invoke, enters_run hent]
        have hrep : ∀ (j : Nat) (x : V) (u : Value), (xs ++ c.args.toList.map (opd τ) ++ ys)[j]? = some x → (us ++ c.args.map a.eval ++ vs)[j]? = some u → Rep I w γ x u := by
          intro j y u hy hu
          rw [← Array.getElem?_toList] at hu
          simp only [Array.toList_append, Array.toList_map] at hu
          have hl1 : xs.length = us.toList.length := by simpa using l1
          by_cases c1 : j < xs.length
          · rw [List.append_assoc, List.getElem?_append_left c1] at hy
            rw [List.append_assoc, List.getElem?_append_left (by omega)] at hu
            exact r1 j y u hy (by simpa using hu)
          · rw [List.append_assoc, List.getElem?_append_right (by omega)] at hy hu
            rw [← hl1] at hu
            by_cases c2 : j - xs.length < c.args.toList.length
            · rw [List.getElem?_append_left (by simpa using c2)] at hy hu
              simp at hy hu
              obtain ⟨q, hq, rfl⟩ := hy
              obtain ⟨q', hq', rfl⟩ := hu
              rw [hq] at hq'
              cases hq'
              exact hS.opd a.defers q
            · rw [List.getElem?_append_right (by simp at c2 ⊢; omega)] at hy hu
              simp only [List.length_map] at hy hu
              exact r2 _ y u hy (by simpa using hu)
        refine wpIn_of_run hrun (by simp) (by simp) ⟨rf_depth, calls_rf ((h a.tmps w γ I (us ++ c.args.map a.eval ++ vs) hS (by simp; omega) hrep).mono fun e w' hh => ?_)⟩
        obtain ⟨u, v, s', rfl, hk, γ', I', hS', hr⟩ := hh
        exact hK u w' γ' I' v s' hk hS' hr
      · split at h
        · rename_i l hy
          have hx : Rep I w γ (opd τ x) (a.eval x) := hS.opd a.defers x
          have hev : a.eval x = .func (.yield l) #[] #[] := by
            generalize a.eval x = ux at hx ⊢
            unfold yieldOf at hy
            split at hy
            · rename_i l' us vs hv
              rw [hv] at hx
              split at hy
              · rename_i hz
                cases hy
                have hu : us = #[] := Array.eq_empty_of_size_eq_zero hz.1
                have hv' : vs = #[] := Array.eq_empty_of_size_eq_zero hz.2
                subst hu hv'
                exact hx.sc_eq
              · cases hy
            · cases hy
          obtain ⟨f, tmps, assign, body, hyl, hR⟩ := h a.tmps w γ I (c.args.map a.eval) hS (by simp) (fun j y u hy hu => by
            rw [← Array.getElem?_toList] at hu
            simp only [Array.toList_map] at hu
            simp at hy hu
            obtain ⟨q, hq, rfl⟩ := hy
            obtain ⟨q', hq', rfl⟩ := hu
            rw [hq] at hq'
            cases hq'
            exact hS.opd a.defers q)
          have hrun : (execOp a.eval o).run P w = .ok (.round l f tmps assign body) w := by
            simp [execOp, ho, resolve, hc, hev, Deferred.ofValue, invoke, hyl]
          refine wpIn_of_run hrun (by simp) (by simp) ⟨rf_depth, ?_⟩
          refine RoundIn.mono (show RoundIn (rf r) (0 - 1) P l f tmps assign body w _ from hR) fun e w' hh => ?_
          obtain ⟨u, v, s', rfl, hk, γ', I', hS', hr⟩ := hh
          exact hK u w' γ' I' v s' hk hS' hr
        · exact h.elim
    · exact byOp h
    · exact h.elim
  · exact byOp h
theorem wpSeq_sound {r : Option Nat} {Φ : Specs} (hΦ : Met P Φ) {ops : Array Oper} {ds : List Deferred} {R : SF → Prop} {Q : Exit → Act → World → Prop} : ∀ (l : List Oper) (s : SF) (a : Act) (w : World), l.all (dstOk n) = true → a.tmps.size = n → a.defers = ds →
    SimF C s a w → wpSeq P Φ C ops R l s → (∀ a' w' s', a'.tmps.size = n → a'.defers = ds → R s' → SimF C s' a' w' → Q .normal a' w') → wpListIn (rf r) 0 P ops Q l a w
  | [], s, a, w, _, hn, hds, hS, h, hQ => hQ a w s hn hds h hS
  | o :: rest, s, a, w, hok, hn, hds, hS, h, hQ => by
    obtain ⟨γ, I, hS⟩ := hS
    simp only [List.all_cons, Bool.and_eq_true] at hok
    simp only [wpSeq] at h
    refine wpListR_step fun K hK => ?_
    split at h
    · rename_i b hw
      cases b with
      | true =>
        have h := h.1 rfl
        rw [if_pos (wantV_sound hS hw)]
        rcases h with h | h
        · split at h
          · rename_i v δ hev
            refine ev_sound hΦ hS hev _ K Q fun u w' γ' I' hS' hr => hK _ _ ?_
            obtain ⟨h1, h2, h3⟩ := sim_putF hS' hr (by rw [hn]; exact hok.1)
            exact wpSeq_sound hΦ rest _ _ w' hok.2 (h2.trans hn) (h3.trans hds) ⟨γ', I', h1⟩ h hQ
          · exact h.elim
        · refine inlO_sound hS h K Q fun u w' γ' I' v s' hk hS' hr => hK _ _ ?_
          obtain ⟨h1, h2, h3⟩ := sim_putF hS' hr (by rw [hn]; exact hok.1)
          exact wpSeq_sound hΦ rest _ _ w' hok.2 (h2.trans hn) (h3.trans hds) ⟨γ', I', h1⟩ hk hQ
      | false =>
        have h := h.2 rfl
        rw [if_neg (by rw [wantV_sound hS hw]; simp)]
        obtain ⟨h1, h2, h3⟩ := sim_putF hS (Rep.sc (I := I) (w := w) γ undef) (by rw [hn]; exact hok.1)
        exact hK _ _ (wpSeq_sound hΦ rest _ _ w hok.2 (h2.trans hn) (h3.trans hds) ⟨γ, I, h1⟩ h hQ)
    · exact h.elim
theorem wpSeq_step {r : Option Nat} {Φ : Specs} (hΦ : Met P Φ) {ops : Array Oper} {ds : List Deferred} {R : SF → Prop} {Q : Exit → Act → World → Prop} {o : Oper} {rest : List Oper} {s : SF} {a : Act} {w : World} {j : Nat} {K : Act → World → Prop} (ho : ops[j]? = some o) (hok : dstOk n o = true) (hn : a.tmps.size = n) (hds : a.defers = ds)
    (hS : SimF C s a w) (h : wpSeq P Φ C ops R (o :: rest) s) (hK : ∀ a' w' s', a'.tmps.size = n → a'.defers = ds → wpSeq P Φ C ops R rest s' → SimF C s' a' w' → K a' w') : wpOpIn (rf r) 0 P ops Q j K a w := by
  obtain ⟨γ, I, hS⟩ := hS
  simp only [wpSeq] at h
  refine wpOpR ho ?_
  split at h
  · rename_i b hw
    cases b with
    | true =>
      have h := h.1 rfl
      rw [if_pos (wantV_sound hS hw)]
      rcases h with h | h
      · split at h
        · rename_i v δ hev
          refine ev_sound hΦ hS hev _ K Q fun u w' γ' I' hS' hr => ?_
          obtain ⟨h1, h2, h3⟩ := sim_putF hS' hr (by rw [hn]; exact hok)
          exact hK _ _ _ (h2.trans hn) (h3.trans hds) h ⟨γ', I', h1⟩
        · exact h.elim
      · refine inlO_sound hS h K Q fun u w' γ' I' v s' hk hS' hr => ?_
        obtain ⟨h1, h2, h3⟩ := sim_putF hS' hr (by rw [hn]; exact hok)
        exact hK _ _ _ (h2.trans hn) (h3.trans hds) hk ⟨γ', I', h1⟩
    | false =>
      have h := h.2 rfl
      rw [if_neg (by rw [wantV_sound hS hw]; simp)]
      obtain ⟨h1, h2, h3⟩ := sim_putF hS (Rep.sc (I := I) (w := w) γ undef) (by rw [hn]; exact hok)
      exact hK _ _ _ (h2.trans hn) (h3.trans hds) h ⟨γ, I, h1⟩
  · exact h.elim
theorem befs_len : ∀ (l : List Oper) (acc : List Nat), (befs l acc).length = acc.length + l.length
  | [], acc => by simp [befs]
  | o :: r, acc => by simp only [befs]; rw [befs_len r]; simp; omega
theorem split_sound {r : Option Nat} {Φ : Specs} (hΦ : Met P Φ) (hm : P.follows .mixedOrders = true) {ops : Array Oper} {id n0 kk : Nat} {ds : List Deferred} {R' : SF → Prop} {Q : Exit → Act → World → Prop} {τ τ' : Nat → V} {H H' : Heap} {recs : List Rec} {a : Act} {w : World}
    (hok : ops.toList.all (dstOk n) = true) (hdr : drawOk ops = true) (hn : a.tmps.size = n) (hds : a.defers = ds) (hS : ∃ γ I, Sim C γ I τ H a.tmps w) (hkk : kk ≤ ops.size)
    (htr : trace P Φ ops n0 (ops.toList.take kk) 0 τ H = some (recs, τ', H')) (hap : apartAll (befs ops.toList []) recs = true) (hfull : kk < ops.size → fullFrom (befs ops.toList []) kk = true)
    (hrest : wpSeq P Φ C ops R' (ops.toList.drop kk) ⟨τ', H', n0 + kk⟩)
    (hQ : ∀ a' w' s', a'.tmps.size = n → a'.defers = ds → R' s' → SimF C s' a' w' → Q .normal a' w') : (Code.region id ops true).wpIn (rf r) 0 P Q a w := by
      obtain ⟨γ0, I0, hS⟩ := hS
      have hops : ∀ k o, (ops.toList.take kk)[k]? = some o → ops[0 + k]? = some o := fun k o h => by
        rw [List.getElem?_take] at h
        split at h
        · simpa using h
        · cases h
      obtain ⟨hrl, hfacts, hτe, hHe⟩ := trace_facts (P := P) (Φ := Φ) (ops := ops) (n0 := n0) (fun k => recs.getD k rec0) τ H (ops.toList.take kk) 0 τ H recs τ' H' hops
        (fun k r hr => by simp [List.getD_eq_getElem?_getD, hr]) rfl rfl htr
      have hlen : (ops.toList.take kk).length = kk := by simp; omega
      rw [hlen] at hrl hτe hHe
      simp only [Nat.zero_add] at hfacts hτe hHe
      generalize hR : (fun k => recs.getD k rec0) = R at hfacts hτe hHe
      -- the two checks, as facts on pairs
      have hpair : ∀ i j, i < j → j < kk → ((befs ops.toList []).getD j 0).testBit i = true ∨ clash (R i) (R j) = false := by
        intro i j hij hj
        simp only [apartAll, List.all_eq_true, List.mem_range] at hap
        have := hap j (by omega) i hij
        simp only [Bool.or_eq_true, Bool.not_eq_true'] at this
        rw [← hR]
        exact this
      have hstat : ∀ i j oi oj, i < j → ops[i]? = some oi → ops[j]? = some oj → ((befs ops.toList []).getD j 0).testBit i = true ∨ Oper.apart ops oi oj = true := by
        intro i j oi oj hij hi hj
        simp only [drawOk, List.all_eq_true, List.mem_range, Bool.and_eq_true, Bool.or_eq_true] at hdr
        have := (hdr j (Array.getElem?_eq_some_iff.1 hj).1).2 i hij
        simpa [Array.getD_eq_getD_getElem?, hi, hj] using this
      have hback : ∀ j oj, ops[j]? = some oj → ∀ e, e ∈ oj.after → Region.binds .any e = true → e.on < j := by
        intro j oj hj e he hb
        simp only [drawOk, List.all_eq_true, List.mem_range, Bool.and_eq_true] at hdr
        have := (hdr j (Array.getElem?_eq_some_iff.1 hj).1).1
        rw [Array.getD_eq_getD_getElem?, hj, Option.getD_some, Array.all_eq_true_iff_forall_mem] at this
        have := this e he
        simpa [hb] using this
      let S : Array Bool → Nat → Bool := fun listed k => listed.getD k false
      let Inv : Array Bool → Act → World → Prop := fun listed a w => a.tmps.size = n ∧ a.defers = ds ∧ Down ops (S listed) ∧
        (((∀ j, kk ≤ j → S listed j = false) ∧ ∃ γ I, Sim C γ I (curT R τ ops (S listed) ops.size) (curH R H (S listed) ops.size) a.tmps w) ∨
          ∃ j s', kk ≤ j ∧ j ≤ ops.size ∧ (∀ i, S listed i = decide (i < j)) ∧ wpSeq P Φ C ops R' (ops.toList.drop j) s' ∧ SimF C s' a w)
      have conv : ∀ (listed : Array Bool) (a' : Act) (w' : World), (∀ j, kk ≤ j → S listed j = false) → (∀ j, j < kk → S listed j = true) → (∃ γ I, Sim C γ I (curT R τ ops (S listed) ops.size) (curH R H (S listed) ops.size) a'.tmps w') →
          (∀ i, S listed i = decide (i < kk)) ∧ SimF C ⟨τ', H', n0 + kk⟩ a' w' := by
        rintro listed a' w' hlo hhi ⟨γ, I, h4⟩
        refine ⟨fun i => ?_, γ, I, ?_⟩
        · by_cases hi : i < kk
          · rw [hhi i hi]; simp [hi]
          · rw [hlo i (by omega)]; simp [hi]
        · dsimp only
          rw [hτe, hHe]
          have cutS : ∀ {X : Type} (wr : Nat → Nat → Option X) (s0 : Nat → X) (m x : Nat), kk ≤ m → cur wr s0 (S listed) m x = cur wr s0 (fun _ => true) kk x := by
            intro X wr s0 m x hm'
            rw [cur_cut wr s0 (i := kk) hm' fun k hk _ _ => hlo k hk]
            exact cur_congr wr s0 fun k hk _ => hhi k hk
          have e1 : curT R τ ops (S listed) ops.size = curT R τ ops (fun _ => true) kk := by
            funext t
            exact cutS _ _ _ _ hkk
          have e2 : curH R H (S listed) ops.size = curH R H (fun _ => true) kk := by
            funext t
            exact cutS _ _ _ _ hkk
          rw [← e1, ← e2]
          exact h4
      have hbit : ∀ i k, kk ≤ i → i < ops.size → k < i → ((befs ops.toList []).getD i 0).testBit k = true := by
        intro i k hi hlt hk
        have := hfull (by omega)
        simp only [fullFrom, List.all_eq_true, List.mem_range, Bool.or_eq_true, decide_eq_true_eq, beq_iff_eq] at this
        rcases this i (by rw [befs_len]; simpa using hlt) with h | h
        · omega
        · rw [h, Nat.testBit_two_pow_sub_one]; simpa using hk
      refine wpIn_region_any hm (wpAny_inv Inv ?_ ?_ ?_ ops.size _ a _ ?_ (by simp) (unl_new _ _ (Nat.le_refl _)))
      · -- all have come
        rintro listed a' w' ⟨h1, h2, _, h4⟩ hsz hall
        have hS1 : ∀ k, k < ops.size → S listed k = true := fun k hk => by
          have := hall k hk
          simp only [S]
          rw [Array.getD_eq_getD_getElem?] at this ⊢
          cases hh : listed[k]? with
          | none => rw [Array.getElem?_eq_none_iff] at hh; omega
          | some b => rw [hh] at this; simpa using this
        rcases h4 with ⟨h3, h4⟩ | ⟨j, s', j1, j2, j3, j4, j5⟩
        · have hke : kk = ops.size := by
            by_cases e : kk = ops.size
            · exact e
            · have := hS1 kk (by omega)
              rw [h3 kk (Nat.le_refl _)] at this
              cases this
          have := (conv listed a' w' h3 (fun j hj => hS1 j (by omega)) h4).2
          rw [hke, List.drop_eq_nil_of_le (by simp)] at hrest
          rw [hke] at this
          exact hQ a' w' _ h1 h2 hrest this
        · have hje : j = ops.size := by
            by_cases e : j = ops.size
            · exact e
            · have := hS1 j (by omega)
              rw [j3 j] at this
              simp at this
          rw [hje, List.drop_eq_nil_of_le (by simp)] at j4
          exact hQ a' w' s' h1 h2 j4 j5
      · -- somebody may come
        rintro listed a' w' _ hsz hr
        intro k
        induction k using Nat.strongRecOn with
        | _ k ih =>
          intro hk
          cases hh : listed.getD k true with
          | true => rfl
          | false =>
            exfalso
            have hmem : k ∈ Region.ready .any ops listed := by
              rw [mem_ready]
              refine ⟨hh, ops[k], by simp [hk], fun e he hb => ?_⟩
              have hlt := hback k ops[k] (by simp [hk]) e he hb
              have := ih e.on hlt (by omega)
              rw [Array.getD_eq_getD_getElem?] at this ⊢
              cases hh2 : listed[e.on]? with
              | none => rw [Array.getElem?_eq_none_iff] at hh2; omega
              | some b => rw [hh2] at this; simpa using this
            rw [hr] at hmem
            cases hmem
      · -- one comes
        rintro listed a' w' i ⟨h1, h2, hdown, hor⟩ hsz hi
        obtain ⟨h0, oi, hoi, hpre⟩ := mem_ready.1 hi
        have hilt : i < ops.size := (Array.getElem?_eq_some_iff.1 hoi).1
        have hsi : S listed i = false := by
          simp only [S]
          rw [Array.getD_eq_getD_getElem?] at h0 ⊢
          cases hh : listed[i]? with
          | none => simp
          | some b => rw [hh] at h0; simpa using h0
        have hpre' : ∀ o, ops[i]? = some o → ∀ e, e ∈ o.after → Region.binds .any e = true → S listed e.on = true := fun o ho e he hb => by
          rw [hoi] at ho
          cases ho
          exact hpre e he hb
        have hbefI : ∀ k, ((befs ops.toList []).getD i 0).testBit k = true → S listed k = true := fun k hk =>
          befs_down hdown ops.toList [] (by simp) (by simp) i k hk hpre'
        have hbefK : ∀ k, ((befs ops.toList []).getD k 0).testBit i = true → S listed k = true → False := fun k hk hs => by
          have := befs_down hdown ops.toList [] (by simp) (by simp) k i hk (fun o ho e he hb => hdown k o ho hs e he hb)
          rw [hsi] at this
          cases this
        have hdown' : Down ops (S (listed.setIfInBounds i true)) := by
          intro k ok hk hsk e he hb
          have keep : ∀ q, S listed q = true → S (listed.setIfInBounds i true) q = true := fun q hq => getD_set_true hq
          by_cases e' : k = i
          · subst e'
            exact keep _ (hpre' ok hk e he hb)
          · refine keep _ (hdown k ok hk ?_ e he hb)
            simp only [S] at hsk ⊢
            rw [getD_set_ne false (fun h => e' h.symm)] at hsk
            exact hsk
        have hset : ∀ k, S (listed.setIfInBounds i true) k = if k = i then true else S listed k := fun k => by
          simp only [S]
          by_cases e : k = i
          · subst e; simp [hsz, hilt]
          · rw [if_neg e, getD_set_ne false (fun h => e h.symm)]
        have hdi : dstOk a'.tmps.size oi = true := by
          rw [h1]
          rw [List.all_eq_true] at hok
          exact hok oi (by simpa using Array.mem_of_getElem? hoi)
        have suffix : (∃ j s', kk ≤ j ∧ j ≤ ops.size ∧ (∀ i, S listed i = decide (i < j)) ∧ wpSeq P Φ C ops R' (ops.toList.drop j) s' ∧ SimF C s' a' w') → wpOpIn (rf r) 0 P ops Q i (Inv (listed.setIfInBounds i true)) a' w' := by
          rintro ⟨j, s', j1, j2, j3, j4, j5⟩
          have hij : j ≤ i := by
            have := j3 i
            rw [hsi] at this
            simpa using this.symm
          have hji : i = j := by
            by_cases e : i = j
            · exact e
            · have := hbefI j (hbit i j (by omega) hilt (by omega))
              rw [j3 j] at this
              simp at this
          subst hji
          have hdr' : ops.toList.drop i = oi :: ops.toList.drop (i + 1) := by
            have hi2 : i < ops.toList.length := by simpa using hilt
            rw [List.drop_eq_getElem_cons hi2]
            congr 1
            have := (Array.getElem?_eq_some_iff.1 hoi).2
            simpa using this
          rw [hdr'] at j4
          refine wpSeq_step (n := n) (ds := ds) hΦ hoi (by rw [h1] at hdi; exact hdi) h1 h2 j5 j4 fun a2 w2 s2 k1 k2 k3 k4 => ⟨k1, k2, hdown', .inr ⟨i + 1, s2, by omega, by omega, fun q => ?_, k3, k4⟩⟩
          rw [hset, j3 q]
          by_cases e : q = i
          · subst e; simp
          · rw [if_neg e]
            by_cases e2 : q < i
            · simp [e2]; omega
            · simp [e2]; omega
        rcases hor with ⟨hlo, h4x⟩ | hsuf
        rotate_left
        · exact suffix hsuf
        by_cases hikk : i < kk
        rotate_left
        · have hik : i = kk := by
            by_cases e : i = kk
            · exact e
            · have := hbefI kk (hbit i kk (by omega) hilt (by omega))
              rw [hlo kk (Nat.le_refl _)] at this
              cases this
          have := conv listed a' w' hlo (fun j hj => hbefI j (hbit i j (by omega) hilt (by omega))) h4x
          exact suffix ⟨kk, _, Nat.le_refl _, hkk, this.1, hrest, this.2⟩
        obtain ⟨γ, I, h4⟩ := h4x
        -- the temporaries that it looks at
        have hlook : ∀ t, t ∈ oi.looksAt ops → curT R τ ops (S listed) ops.size t = curT R τ ops (fun _ => true) i t := by
          intro t ht
          refine cur_read _ _ (by omega) (fun k hk hki hw => ?_) hsi
          have ⟨ok, hok', hdk⟩ : ∃ ok, ops[k]? = some ok ∧ ok.dst = some t := by
            unfold wrT at hw
            cases hh : ops[k]? with
            | none => simp [hh] at hw
            | some ok =>
              refine ⟨ok, rfl, ?_⟩
              simp [hh] at hw
              exact hw
          refine ⟨fun hlt => ?_, fun hgt => ?_⟩
          · rcases hstat k i ok oi hlt hok' hoi with hb | hap'
            · exact hbefI k hb
            · exact absurd ht ((Oper.apart_spec hap').1 t hdk)
          · cases hsk : S listed k with
            | false => rfl
            | true =>
              exfalso
              rcases hstat i k oi ok hgt hoi hok' with hb | hap'
              · exact hbefK k hb hsk
              · exact absurd ht ((Oper.apart_spec hap').2.2 t hdk)
        have hopd : ∀ x ∈ oi.op.operands, opd (curT R τ ops (S listed) ops.size) x = opd (curT R τ ops (fun _ => true) i) x := by
          intro x hx
          cases x with
          | tmp t => exact hlook t (List.mem_append_left _ (List.mem_filterMap.2 ⟨.tmp t, by simpa using hx, rfl⟩))
          | _ => rfl
        have hwant : wantV (curT R τ ops (S listed) ops.size) ops oi = wantV (curT R τ ops (fun _ => true) i) ops oi := by
          unfold wantV
          cases hg : oi.guard with
          | none => rfl
          | some gw =>
            obtain ⟨g, want⟩ := gw
            dsimp only
            cases hd : (ops[g]?).bind (·.dst) with
            | none => rfl
            | some t =>
              dsimp only
              rw [hlook t (List.mem_append_right _ (by simp [hg, hd]))]
        -- what it writes is written last
        have hnewT : ∀ t, curT R τ ops (S (listed.setIfInBounds i true)) ops.size t = (wrT R ops i t).getD (curT R τ ops (S listed) ops.size t) := by
          intro t
          refine cur_write _ _ (S := S listed) (fun k => ?_) hilt (fun hwi k hik hk hwk => ?_) hsi
          · simp only [S]
            by_cases e : k = i
            · subst e; simp [hsz, hilt]
            · rw [if_neg e, getD_set_ne false (fun h => e h.symm)]
          · have ⟨ok, hok', hdk⟩ : ∃ ok, ops[k]? = some ok ∧ ok.dst = some t := by
              unfold wrT at hwk
              cases hh : ops[k]? with
              | none => simp [hh] at hwk
              | some ok => exact ⟨ok, rfl, by simpa [hh] using hwk⟩
            have hdi : oi.dst = some t := by
              unfold wrT at hwi
              simpa [hoi] using hwi
            cases hsk : S listed k with
            | false => rfl
            | true =>
              exfalso
              rcases hstat i k oi ok hik hoi hok' with hb | hap'
              · exact hbefK k hb hsk
              · exact (Oper.apart_spec hap').2.1 t hdi hdk
        have hnewH : ∀ x, curH R H (S (listed.setIfInBounds i true)) ops.size x = (wrH R i x).getD (curH R H (S listed) ops.size x) := by
          intro x
          refine cur_write _ _ (S := S listed) (fun k => ?_) hilt (fun hwi k hik hk hwk => ?_) hsi
          · simp only [S]
            by_cases e : k = i
            · subst e; simp [hsz, hilt]
            · rw [if_neg e, getD_set_ne false (fun h => e h.symm)]
          · obtain ⟨y, hy⟩ := lastOf_mem hwi
            obtain ⟨z, hz⟩ := lastOf_mem hwk
            cases hsk : S listed k with
            | false => rfl
            | true =>
              exfalso
              have hkk2 : k < kk := by
                by_cases e : k < kk
                · exact e
                · rw [hlo k (by omega)] at hsk; cases hsk
              rcases hpair i k hik hkk2 with hb | hc
              · exact hbefK k hb hsk
              · simp only [clash, Bool.or_eq_false_iff, List.any_eq_false] at hc
                have := hc.1 _ hy
                simp only [Bool.or_eq_true, not_or, List.any_eq_true, not_exists, not_and] at this
                exact this.2 _ hz (by simp)
        have hlo' : ∀ j, kk ≤ j → S (listed.setIfInBounds i true) j = false := fun j hj => by
          rw [hset, if_neg (by omega), hlo j hj]
        -- the new state
        have fin : ∀ {u : Value} {w'' : World} {γ' : Places} {I' : Imm}, Sim C γ' I' (curT R τ ops (S listed) ops.size) (putH (curH R H (S listed) ops.size) (R i).δ) a'.tmps w'' → Rep I' w'' γ' (R i).v u →
            Inv (listed.setIfInBounds i true) (a'.put oi.dst u) w'' := by
          intro u w'' γ' I' hsim hrep
          have eH : putH (curH R H (S listed) ops.size) (R i).δ = curH R H (S (listed.setIfInBounds i true)) ops.size := by
            funext x
            rw [putH_last, hnewH]
            rfl
          rw [eH] at hsim
          unfold dstOk at hdi
          cases hd : oi.dst with
          | none =>
            refine ⟨h1, h2, hdown', .inl ⟨hlo', γ', I', ?_⟩⟩
            have eT : curT R τ ops (S (listed.setIfInBounds i true)) ops.size = curT R τ ops (S listed) ops.size := by
              funext t
              rw [hnewT]
              simp [wrT, hoi, hd]
            rw [eT]
            exact hsim
          | some d =>
            rw [hd] at hdi
            simp only [decide_eq_true_eq] at hdi
            refine ⟨by simp [Act.put, h1], h2, hdown', .inl ⟨hlo', γ', I', ?_⟩⟩
            have eT : curT R τ ops (S (listed.setIfInBounds i true)) ops.size = updT (curT R τ ops (S listed) ops.size) d (R i).v := by
              funext t
              rw [hnewT]
              simp only [wrT, hoi, hd, Option.bind_some, Option.some.injEq, updT]
              by_cases e : t = d
              · subst e; simp
              · rw [if_neg e, if_neg (fun h => e h.symm)]; rfl
            rw [eT]
            exact hsim.put hrep hdi
        refine wpOpR hoi ?_
        rcases hfacts i oi (by rw [List.getElem?_take_of_lt hikk]; simpa using hoi) with ⟨hw, hev, hrd⟩ | ⟨hw, hv, hδ⟩
        · rw [← hwant] at hw
          rw [if_pos (wantV_sound h4 hw)]
          have hneed := (evOp_congr (P := P) (Φ := Φ) (nid := n0 + i) (h := fun _ => .dead) oi hopd).2
          have hev' : ev P Φ (n0 + i) (opd (curT R τ ops (S listed) ops.size)) (curH R H (S listed) ops.size) oi = some ((R i).v, (R i).δ) := by
            rw [← hev]
            unfold ev
            have eO : only (need (n0 + i) (opd (curT R τ ops (S listed) ops.size)) oi) (curH R H (S listed) ops.size) =
                only (need (n0 + i) (opd (curT R τ ops (fun _ => true) i)) oi) (curH R H (fun _ => true) i) := by
              funext x
              rw [hneed]
              unfold only
              split
              · rename_i hx
                refine cur_read _ _ (by omega) (fun k hk hki hwk => ?_) hsi
                obtain ⟨z, hz⟩ := lastOf_mem hwk
                have hxr : x ∈ (R i).rd := by rw [hrd]; simpa using hx
                refine ⟨fun hlt => ?_, fun hgt => ?_⟩
                · rcases hpair k i hlt hikk with hb | hc
                  · exact hbefI k hb
                  · exfalso
                    simp only [clash, Bool.or_eq_false_iff, List.any_eq_false] at hc
                    have := hc.1 _ hz
                    simp only [Bool.or_eq_true, not_or] at this
                    exact this.1 (by simpa using hxr)
                · cases hsk : S listed k with
                  | false => rfl
                  | true =>
                    exfalso
                    have hkk2 : k < kk := by
                      by_cases e : k < kk
                      · exact e
                      · rw [hlo k (by omega)] at hsk; cases hsk
                    rcases hpair i k hgt hkk2 with hb | hc
                    · exact hbefK k hb hsk
                    · simp only [clash, Bool.or_eq_false_iff, List.any_eq_false] at hc
                      exact hc.2 _ hz (by simpa using hxr)
              · rfl
            rw [eO]
            exact (evOp_congr oi hopd).1
          exact ev_sound hΦ h4 hev' _ _ _ fun u w'' γ' I' hs' hr => fin hs' hr
        · rw [← hwant] at hw
          rw [if_neg (by rw [wantV_sound h4 hw]; simp)]
          refine fin (γ' := γ) (I' := I) ?_ ?_
          · rw [hδ]; exact h4
          · rw [hv]; exact .sc _ _
      · -- the start
        have hS0' : ∀ k, S (Array.replicate ops.size false) k = false := fun k => by
            simp only [S]
            rw [Array.getD_eq_getD_getElem?, Array.getElem?_replicate]
            split <;> rfl
        refine ⟨hn, hds, fun k o _ hs => ?_, .inl ⟨fun j _ => hS0' j, γ0, I0, ?_⟩⟩
        · simp only [S] at hs
          rw [Array.getD_eq_getD_getElem?] at hs
          cases hh : (Array.replicate ops.size false)[k]? with
          | none => rw [hh] at hs; simp at hs
          | some b =>
            rw [hh] at hs
            simp [Array.getElem?_replicate] at hh
            simp at hs
            rw [hh.2] at hs
            cases hs
        · have hS0 : ∀ k, S (Array.replicate ops.size false) k = false := fun k => by
            simp only [S]
            rw [Array.getD_eq_getD_getElem?, Array.getElem?_replicate]
            split <;> rfl
          have e1 : curT R τ ops (S (Array.replicate ops.size false)) ops.size = τ := by
            funext t
            exact cur_cut _ _ (i := 0) (by omega) fun k _ _ _ => hS0 k
          have e2 : curH R H (S (Array.replicate ops.size false)) ops.size = H := by
            funext t
            exact cur_cut _ _ (i := 0) (by omega) fun k _ _ _ => hS0 k
          rw [e1, e2]
          exact hS.drawn _
def thin (r : Rec) : Rec := ⟨.any, r.δ.map fun p => (p.1, .dead), r.rd⟩
theorem clash_thin (x y : Rec) : clash (thin x) (thin y) = clash x y := by
  simp [clash, thin, Function.comp_def]
theorem apartAll_thin (bef : List Nat) (recs : List Rec) : apartAll bef (recs.map thin) = apartAll bef recs := by
  unfold apartAll
  have e : ∀ i, (recs.map thin).getD i rec0 = thin (recs.getD i rec0) := fun i => by
    simp only [List.getD_eq_getElem?_getD, List.getElem?_map]
    cases recs[i]? <;> simp [thin, rec0]
  simp only [List.length_map, e, clash_thin]
theorem wpDraw_trace {Φ : Specs} {ops : Array Oper} {n0 : Nat} {R : SF → Prop} : ∀ (l : List Oper) (i : Nat) (acc : List Rec) (s : SF), wpDraw P Φ C ops n0 R l i acc s →
    ∃ kk recs τ' H', kk ≤ l.length ∧ trace P Φ ops n0 (l.take kk) i s.τ s.H = some (recs, τ', H') ∧ apartAll (befs ops.toList []) (acc.reverse ++ recs.map thin) = true ∧ (kk < l.length → fullFrom (befs ops.toList []) (i + kk) = true) ∧ wpSeq P Φ C ops R (l.drop kk) ⟨τ', H', n0 + (i + kk)⟩
  | [], i, acc, s, h => ⟨0, [], s.τ, s.H, Nat.le_refl _, rfl, by simpa using h.1, fun h => by simp at h, by simpa [wpSeq] using h.2⟩
  | o :: rest, i, acc, s, h => by
    simp only [wpDraw] at h
    split at h
    · rename_i b hw
      cases b with
      | true =>
        rcases h.1 rfl with h | h
        · split at h
          rotate_left
          · exact h.elim
          rename_i v δ hev
          obtain ⟨kk, recs, τ', H', h0, h1, h2, h3, h4⟩ := wpDraw_trace rest (i + 1) _ _ h
          dsimp only at h1
          refine ⟨kk + 1, ⟨v, δ, need (n0 + i) (opd s.τ) o⟩ :: recs, τ', H', by simpa using h0, ?_, ?_, fun hk => ?_, ?_⟩
          · simp only [List.take_succ_cons, trace, hw, hev, h1]
          · simpa [thin] using h2
          · rw [show i + (kk + 1) = i + 1 + kk from by omega]; exact h3 (by simpa using hk)
          · rw [show i + (kk + 1) = i + 1 + kk from by omega]; exact h4
        · refine ⟨0, [], s.τ, s.H, Nat.zero_le _, rfl, by simpa using h.2.1, fun _ => by simpa using h.1, ?_⟩
          simp only [List.drop_zero, wpSeq, hw, Nat.add_zero]
          exact ⟨fun _ => .inr h.2.2, fun e => by cases e⟩
      | false =>
        have h := h.2 rfl
        obtain ⟨kk, recs, τ', H', h0, h1, h2, h3, h4⟩ := wpDraw_trace rest (i + 1) _ _ h
        dsimp only at h1
        refine ⟨kk + 1, ⟨.sc undef, [], []⟩ :: recs, τ', H', by simpa using h0, ?_, ?_, fun hk => ?_, ?_⟩
        · simp only [List.take_succ_cons, trace, hw, h1]
        · simpa [thin] using h2
        · rw [show i + (kk + 1) = i + 1 + kk from by omega]; exact h3 (by simpa using hk)
        · rw [show i + (kk + 1) = i + 1 + kk from by omega]; exact h4
    · exact h.elim
theorem TriF.regionS {Φ : Specs} (hg : Good P Φ) {id : Nat} {ops : Array Oper} (h : wpSeq P Φ C ops (Q .normal) ops.toList s) : TriF P C n (.region id ops false) s Q := by
  intro hok ds a w hn hd hS
  simp only [okCode, Bool.and_eq_true] at hok
  exact wpIn_region_list (wpSeq_sound hg.met _ _ _ _ hok.1 hn hd hS h fun a' w' s' h1 h2 h3 h4 => ⟨h1, h2, s', h3, h4⟩)
theorem TriF.regionD {Φ : Specs} (hg : Good P Φ) {id : Nat} {ops : Array Oper} (h : wpDraw P Φ C ops s.n (Q .normal) ops.toList 0 [] s) : TriF P C n (.region id ops true) s Q := by
  intro hok ds a w hn hd hS
  simp only [okCode, Bool.and_eq_true, Bool.or_eq_true, Bool.not_eq_true'] at hok
  have hdr : drawOk ops = true := hok.2.resolve_left (by simp)
  obtain ⟨kk, recs, τ', H', h0, h1, h2, h3, h4⟩ := wpDraw_trace _ _ _ _ h
  simp only [List.reverse_nil, List.nil_append, apartAll_thin, Nat.zero_add] at h2 h3 h4
  exact split_sound hg.met hg.orders hok.1 hdr hn hd hS (by simpa using h0) h1 h2 (by simpa using h3) h4 fun a' w' s' k1 k2 k3 k4 => ⟨k1, k2, s', k3, k4⟩
def andThenF (K : SF → Prop) (Q : Exit → SF → Prop) : Exit → SF → Prop
  | .normal, s => K s
  | e, s => Q e s
def inBlockF (id : Nat) (Q : Exit → SF → Prop) : Exit → SF → Prop
  | .exit id', s => if id' = id then Q .normal s else Q (.exit id') s
  | e, s => Q e s
theorem TriF.seq {x y : Code} (h : TriF P C n x s (andThenF (fun s' => TriF P C n y s' Q) Q)) : TriF P C n (.seq x y) s Q := by
  intro hok ds a w hn hd hS
  simp only [okCode, Bool.and_eq_true] at hok
  refine wpIn_seq (wpIn_mono (h hok.1 _ a w hn hd hS) ?_)
  rintro e a' w' ⟨h1, h2, s', h3, h4⟩
  cases e with
  | normal => exact h3 hok.2 _ a' w' h1 h2 h4
  | _ => exact ⟨h1, h2, s', h3, h4⟩
theorem TriF.cond {c : Operand} {x y : Code} {t : Bool} (hc : opd s.τ c = .sc (.bool t)) (h : TriF P C n (if t then x else y) s Q) : TriF P C n (.cond c x y) s Q := by
  intro hok ds a w hn hd hS
  simp only [okCode, Bool.and_eq_true] at hok
  obtain ⟨γ, I, hS'⟩ := hS
  have hr := hS'.opd a.defers c
  rw [hc] at hr
  refine wpIn_cond hr.sc_eq (h ?_ _ a w hn hd ⟨γ, I, hS'⟩)
  cases t
  · exact hok.2
  · exact hok.1
theorem TriF.block {id : Nat} {c : Code} (h : TriF P C n c s (inBlockF id Q)) : TriF P C n (.block id c) s Q := by
  intro hok ds a w hn hd hS
  refine wpIn_block (wpIn_mono (h hok _ a w hn hd hS) ?_)
  rintro e a' w' ⟨h1, h2, s', h3, h4⟩
  cases e with
  | exit id' =>
    simp only [Exit.inBlock, inBlockF] at h3 ⊢
    split at h3
    · rename_i e; rw [if_pos e]; exact ⟨h1, h2, s', h3, h4⟩
    · rename_i e; rw [if_neg e]; exact ⟨h1, h2, s', h3, h4⟩
  | _ => exact ⟨h1, h2, s', h3, h4⟩
def noGotoF (Q : Exit → SF → Prop) : Exit → SF → Prop
  | .goto _, _ => False
  | e, s => Q e s
theorem TriF.scope {c : Code} (h : TriF P C n c s (noGotoF Q)) : TriF P C n (.scope c) s Q := by
  intro hok ds a w hn hd hS
  refine wpIn_scope (wpIn_mono (h hok _ a w hn hd hS) ?_)
  rintro e a' w' ⟨h1, h2, s', h3, h4⟩
  cases e with
  | goto l => exact h3.elim
  | _ => exact ⟨h1, h2, s', h3, h4⟩
theorem TriF.loop {c : Code} (J : Nat → SF → Prop) {m : Nat} (h0 : ∃ s', LeF C s s' ∧ J m s') (round : ∀ m s, J m s → TriF P C n c s (andThenF (fun s' => ∃ k s'', k < m ∧ LeF C s' s'' ∧ J k s'') Q)) : TriF P C n (.loop c) s Q := by
  intro hok ds a w hn hd hS
  obtain ⟨s0, hle0, hJ0⟩ := h0
  refine wpIn_loop_idx (fun m a w => a.tmps.size = n ∧ a.defers = ds ∧ ∃ s, J m s ∧ SimF C s a w) (m := m) ⟨hn, hd, s0, hJ0, hle0 a w hS⟩ ?_
  rintro m a w ⟨h1, h2, s, hJ, hS⟩
  refine wpIn_mono (round m s hJ hok _ a w h1 h2 hS) ?_
  rintro e a' w' ⟨h3, h4, s', h5, h6⟩
  cases e with
  | normal =>
    obtain ⟨k, s'', hk, hle, hJ'⟩ := h5
    exact ⟨k, hk, h3, h4, s'', hJ', hle a' w' h6⟩
  | _ => exact ⟨h3, h4, s', h5, h6⟩
def walk (P : Program) (Φ : Specs) (C : Ctx) (n : Nat) (K : List Nat) : Code → SF → (Exit → SF → Prop) → Prop
  | .skip, s, Q => Q .normal s
  | .label _, s, Q => Q .normal s
  | .region _ ops false, s, Q => wpSeq P Φ C ops (fun s' => Q .normal ⟨prune K s'.τ, s'.H, s'.n⟩) ops.toList s
  | .region _ ops true, s, Q => wpDraw P Φ C ops s.n (fun s' => Q .normal ⟨prune K s'.τ, s'.H, s'.n⟩) ops.toList 0 [] s
  | .seq x y, s, Q => walk P Φ C n K x s (andThenF (fun s' => walk P Φ C n K y s' Q) Q)
  | .cond c x y, s, Q => ∃ t, opd s.τ c = .sc (.bool t) ∧ (t = true → walk P Φ C n K x s Q) ∧ (t = false → walk P Φ C n K y s Q)
  | .block id b, s, Q => walk P Φ C n K b s (inBlockF id Q)
  | .exit id, s, Q => Q (.exit id) s
  | .ret, s, Q => Q .ret s
  | .loop b, s, Q => TriF P C n (.loop b) s Q
  | _, _, _ => False
theorem walk_sound {Φ : Specs} (hg : Good P Φ) {K : List Nat} : ∀ (c : Code) (s : SF) (Q : Exit → SF → Prop), walk P Φ C n K c s Q → TriF P C n c s Q
  | .skip, s, Q, h => fun _ _ _ _ hn hd hS => wpIn_skip ⟨hn, hd, s, h, hS⟩
  | .label _, s, Q, h => fun _ _ _ _ hn hd hS => wpIn_label ⟨hn, hd, s, h, hS⟩
  | .exit _, s, Q, h => fun _ _ _ _ hn hd hS => wpIn_exit ⟨hn, hd, s, h, hS⟩
  | .ret, s, Q, h => fun _ _ _ _ hn hd hS => wpIn_ret ⟨hn, hd, s, h, hS⟩
  | .region _ ops false, s, Q, h => fun hok ds a w hn hd hS => wpIn_mono (TriF.regionS (Q := fun e s' => e = .normal ∧ Q .normal ⟨prune K s'.τ, s'.H, s'.n⟩) hg (by
      have : (fun s' : SF => (Exit.normal = Exit.normal ∧ Q .normal ⟨prune K s'.τ, s'.H, s'.n⟩)) = fun s' => Q .normal ⟨prune K s'.τ, s'.H, s'.n⟩ := by funext s'; simp
      rw [this]; exact h) hok ds a w hn hd hS) fun e a' w' ⟨h1, h2, s', ⟨he, hq⟩, h4⟩ => by subst he; exact ⟨h1, h2, _, hq, LeF.prune K s' a' w' h4⟩
  | .region _ ops true, s, Q, h => fun hok ds a w hn hd hS => wpIn_mono (TriF.regionD (Q := fun e s' => e = .normal ∧ Q .normal ⟨prune K s'.τ, s'.H, s'.n⟩) hg (by
      have : (fun s' : SF => (Exit.normal = Exit.normal ∧ Q .normal ⟨prune K s'.τ, s'.H, s'.n⟩)) = fun s' => Q .normal ⟨prune K s'.τ, s'.H, s'.n⟩ := by funext s'; simp
      rw [this]; exact h) hok ds a w hn hd hS) fun e a' w' ⟨h1, h2, s', ⟨he, hq⟩, h4⟩ => by subst he; exact ⟨h1, h2, _, hq, LeF.prune K s' a' w' h4⟩
  | .seq x y, s, Q, h => .seq ((walk_sound hg x s _ h).mono fun e s' hh => by
      cases e with
      | normal => exact walk_sound hg y s' Q hh
      | _ => exact hh)
  | .cond c x y, s, Q, h => by
    obtain ⟨t, hc, h1, h2⟩ := h
    refine .cond hc ?_
    cases t with
    | true => exact walk_sound hg x s Q (h1 rfl)
    | false => exact walk_sound hg y s Q (h2 rfl)
  | .block id b, s, Q, h => .block (walk_sound hg b s _ h)
  | .loop b, s, Q, h => h
  | .rangeFunc .., _, _, h => h.elim
  | .scope _, _, _, h => h.elim
  | .goto _, _, _, h => h.elim
  | .refuse _, _, _, h => h.elim
def resOneF (P : Program) (s : SF) : ResultVar → Option V
  | .tmp t => some (s.τ t)
  | .cell x t => evLoad P s.H t (s.τ x)
def resLF (P : Program) (s : SF) : List ResultVar → Option (List V)
  | [] => some []
  | r :: rs => match resOneF P s r, resLF P s rs with
    | some x, some xs => some (x :: xs)
    | _, _ => none
def resF (P : Program) (rs : List ResultVar) (s : SF) : Option V :=
  (resLF P s rs).bind fun xs => (freezesR s.H xs).map fun
    | [x] => x
    | ys => .tup ys
def pars : List V → Nat → V
  | [], _ => .any
  | x :: _, 0 => x
  | _ :: xs, n + 1 => pars xs n
theorem pars_eq (l : List V) (t : Nat) : pars l t = (l[t]?).getD .any := by
  induction l generalizing t with
  | nil => simp [pars]
  | cons x l ih => cases t <;> simp [pars, ih]
theorem start_simF {args : Array Value} {xs : List V} {n : Nat} (hlen : xs.length = args.size) (hr : ∀ (j : Nat) (x : V) (u : Value), xs[j]? = some x → args[j]? = some u → Rep C.I0 C.w0 noPlaces x u)
    (hI : ∀ g x, C.I0 g x → g < C.w0.heap.size) (hk : C.keep = []) : SimF C ⟨pars xs, fun _ => .unborn, 0⟩ { tmps := args ++ Array.replicate n undef, defers := [] } C.w0 := by
  refine ⟨noPlaces, C.I0, {
    below := Bel.refl _ _
    imm0 := fun _ _ h => h
    immB := fun _ _ h => .inl h
    immS := hI
    tmp := fun t => ?_
    kept := fun fr hf => by rw [hk] at hf; cases hf
    dom := by simp [noPlaces]
    obj := by simp
    ext := by simp
    inj := by simp [noPlaces] }⟩
  simp only [pars_eq]
  by_cases ht : t < args.size
  · have hx : xs[t]? = some xs[t] := List.getElem?_eq_getElem (by omega)
    have hu : args[t]? = some args[t] := by simp [ht]
    rw [hx, Option.getD_some]
    have := hr t _ _ hx hu
    simpa [Array.getElem?_append_left ht, hu] using this
  · rw [List.getElem?_eq_none (by omega)]
    exact .any _ _
theorem resLF_run {s : SF} {γ : Places} {I : Imm} {tm : Array Value} {w : World} (hS : Sim C γ I s.τ s.H tm w) : ∀ (rs : List ResultVar) (xs : List V), resLF P s rs = some xs →
    ∃ vs : List Value, (rs.mapM (resM tm)).run P w = .ok vs w ∧ xs.length = vs.length ∧ ∀ (j : Nat) (x : V) (u : Value), xs[j]? = some x → vs[j]? = some u → Rep I w γ x u
  | [], xs, h => by
    simp [resLF] at h
    subst h
    exact ⟨[], rfl, rfl, by simp⟩
  | r :: rs, xs, h => by
    simp only [resLF] at h
    split at h
    · rename_i x xs' h1 h2
      cases h
      obtain ⟨vs, hv1, hv2, hv3⟩ := resLF_run hS rs xs' h2
      have fin : ∀ {u : Value}, (resM tm r).run P w = .ok u w → Rep I w γ x u →
          ∃ vs : List Value, ((r :: rs).mapM (resM tm)).run P w = .ok vs w ∧ (x :: xs').length = vs.length ∧ ∀ (j : Nat) (x0 : V) (u : Value), (x :: xs')[j]? = some x0 → vs[j]? = some u → Rep I w γ x0 u := by
        intro u hu hr
        refine ⟨u :: vs, ?_, by simp [hv2], fun j x0 u0 hx hu0 => ?_⟩
        · rw [List.mapM_cons]
          simp only [Sem.run_bind, hu, hv1, Result.andThen_ok, Sem.run_pure]
        · cases j with
          | zero => simp at hx hu0; subst hx hu0; exact hr
          | succ j => exact hv3 j x0 u0 (by simpa using hx) (by simpa using hu0)
      cases r with
      | tmp t =>
        simp only [resOneF, Option.some.injEq] at h1
        subst h1
        exact fin (u := tm.getD t undef) rfl (hS.tmp t)
      | cell a t =>
        simp only [resOneF] at h1
        obtain ⟨g, y, u, hu, hl, hr⟩ := load_run hS h1 (hS.tmp a)
        refine fin (u := u) ?_ hr
        simp only [resM]
        rw [hu]
        simp [asAddr, hl]
    · cases h
theorem freezesR_get {h : Heap} : ∀ {xs ys : List V}, freezesR h xs = some ys → ys.length = xs.length ∧ ∀ (j : Nat) (y : V), ys[j]? = some y → ∃ x, xs[j]? = some x ∧ freezeR h x = some y
  | [], ys, h => by cases h; simp
  | x :: xs, ys, h => by
    simp only [freezesR] at h
    split at h
    · rename_i a l h1 h2
      cases h
      obtain ⟨e1, e2⟩ := freezesR_get h2
      refine ⟨by simp [e1], fun j z hz => ?_⟩
      cases j with
      | zero => simp at hz; subst hz; exact ⟨x, rfl, h1⟩
      | succ j => exact e2 j z (by simpa using hz)
    · cases h
theorem Rep.frozenF {I : Imm} {w : World} {γ : Places} {x : V} {u : Value} (h : Rep I w γ x u) (hf : x.isF = true) : Rep I w noPlaces x u := by
  cases x with
  | agg cs =>
    simp only [V.isF, List.all_eq_true] at hf
    cases h with
    | agg _ _ vs hlen hh => exact .agg _ _ _ hlen fun j c u hc hu => (hh j c u hc hu).frozen (hf c (List.mem_of_getElem? hc))
  | _ => exact h.frozen (by simpa [V.isF] using hf)
theorem resG_run {fn : Func} {s : SF} {r : V} {γ : Places} {I : Imm} {tm : Array Value} {w : World} (hS : Sim C γ I s.τ s.H tm w) (h : resF P fn.results.toList s = some r) :
    ∃ u I', (results fn tm).run P w = .ok u w ∧ Rep I' w noPlaces r u ∧ (∀ g x, I' g x → C.I0 g x ∨ (C.w0.heap.size ≤ g ∧ g < w.heap.size)) := by
  unfold resF at h
  cases hl : resLF P s fn.results.toList with
  | none => simp [hl] at h
  | some xs =>
    simp only [hl, Option.bind_some, Option.map_eq_some_iff] at h
    obtain ⟨ys, hfz, hr⟩ := h
    obtain ⟨vs, hv1, hv2, hv3⟩ := resLF_run hS _ _ hl
    obtain ⟨⟨I', hI', hS'⟩, hlast⟩ := Sim.froze s.H (xs.flatMap V.ids) hS (fun id sz es hl => ⟨true, hl⟩)
    obtain ⟨hf1, hf2⟩ := freezesR_get hfz
    -- the objects that are looked at
    have hfix : ∀ x, x ∈ xs → ∀ y u, freeze s.H x = some y → Rep I w γ x u → Rep I' w noPlaces y u := by
      intro x hx y u hy hu
      have hids : ∀ id, id ∈ x.ids → id ∈ xs.flatMap V.ids := fun id hid => List.mem_flatMap.2 ⟨x, hx, hid⟩
      have hu' : Rep I' w γ x u := hu.mono (Pres.refl I w) hI' fun _ _ h => h
      -- one cell
      have one : ∀ (c d : V) (uc : Value), (∀ id, id ∈ c.idsC → id ∈ xs.flatMap V.ids) → freezeC s.H c = some d → Rep I' w γ c uc → Rep I' w noPlaces d uc := by
        intro c d uc hc hd huc
        have hh : freezeC (fun y => if y ∈ c.idsC then s.H y else .dead) c = some d := by
          cases c with
          | own id off len => simpa [freezeC, V.idsC] using hd
          | _ => first | (simp [freezeC] at hd; done) | simpa [freezeC] using hd
        refine freezeC_rep hS' (h := fun y => if y ∈ c.idsC then s.H y else .dead) (fun id sz es mu hlv hall => ?_) hh huc
        split at hlv
        · rename_i hm
          refine hlast id sz es mu hlv ?_
          cases mu with
          | false => exact .inl rfl
          | true => exact .inr ⟨hc id hm, hlv, hall⟩
        · cases hlv
      cases x with
      | agg cs =>
        simp only [freeze, Option.map_eq_some_iff] at hy
        obtain ⟨zs, hzs, rfl⟩ := hy
        obtain ⟨g1, g2⟩ := freezeL_get hzs
        cases hu' with
        | agg _ _ us hlen hh' =>
          refine .agg _ _ _ (by omega) fun j c z hc hz => ?_
          obtain ⟨c0, hc0, hfc⟩ := g2 j c hc
          refine one c0 c z (fun id hid => hids id ?_) hfc (hh' j c0 z hc0 hz)
          simp only [V.ids, List.mem_flatMap]
          exact ⟨c0, List.mem_of_getElem? hc0, hid⟩
      | own id off len => exact one (.own id off len) _ _ hids (by simpa only [freeze] using hy) hu'
      | _ => exact one _ _ _ (by simp [V.idsC]) (by simpa only [freeze] using hy) hu'
    have hrep : ∀ (j : Nat) (y : V) (u : Value), ys[j]? = some y → vs[j]? = some u → Rep (fun g x => I' g x ∨ (C.w0.heap.size ≤ g ∧ g < w.heap.size)) w noPlaces y u := by
      intro j y u hy hu
      obtain ⟨x, hx, hfx⟩ := hf2 j y hy
      unfold freezeR at hfx
      cases hfz' : freeze s.H x with
      | some y' =>
        rw [hfz'] at hfx
        cases hfx
        exact (hfix x (List.mem_of_getElem? hx) y u hfz' (hv3 j x u hx hu)).mono (Pres.refl _ _) (fun _ _ h => .inl h) fun _ _ h => h
      | none =>
        rw [hfz'] at hfx
        simp only [orO] at hfx
        unfold mapR at hfx
        split at hfx
        · rename_i id
          split at hfx
          · rename_i ks ws hH
            split at hfx
            · rename_i hall
              cases hfx
              obtain ⟨p, ents, clock, q1, q2, q3, q4, q5, q6, q7, q8⟩ := map_at hS hH (hv3 j _ u hx hu)
              subst q2
              obtain ⟨_, d1, d2⟩ := hS.dom id p q1
              refine .mapf _ _ _ _ clock ents (.inr ⟨d1, d2⟩) q3 q5 q6 fun j x e hx he => ?_
              have := (q8 j x e hx he).frozenF (List.all_eq_true.1 hall x (List.mem_of_getElem? hx))
              exact this.mono (Pres.refl _ _) (fun g x h => .inl (hI' g x h)) fun _ _ h => h
            · cases hfx
          · cases hfx
        · cases hfx
    have hrun : (fn.results.mapM (resM tm)).run P w = .ok vs.toArray w := by
      rw [Array.mapM_eq_mapM_toList]
      simp only [Functor.map, Sem.run_bind', hv1, Result.andThen_ok]
      rfl
    refine ⟨if h : vs.toArray.size = 1 then vs.toArray[0] else .tuple vs.toArray, fun g x => I' g x ∨ (C.w0.heap.size ≤ g ∧ g < w.heap.size), ?_, ?_, fun g x hx => ?_⟩
    · rw [results_eq]
      simp only [Sem.run_bind, hrun, Result.andThen_ok, Sem.run_pure]
    · have hlen : ys.length = vs.length := by omega
      subst hr
      split
      · rename_i x
        have h1 : vs.length = 1 := by simpa using hlen.symm
        rw [dif_pos (by simpa using h1)]
        refine hrep 0 x _ rfl ?_
        simp
      · rename_i hne
        have h1 : ¬ vs.toArray.size = 1 := by
          intro h1
          simp at h1
          rw [h1] at hlen
          obtain ⟨x, rfl⟩ := List.length_eq_one_iff.1 hlen
          exact hne x rfl
        rw [dif_neg h1]
        exact .tup _ _ _ (by simpa using hlen) fun j c u hc hu => hrep j c u hc (by simpa using hu)
    · rcases hx with hx | hx
      · rcases hS'.immB g x hx with h1 | h1
        · exact .inl h1
        · exact .inr ⟨h1, hS'.immS g x hx⟩
      · exact .inr hx
end Go.Idl
namespace Go.Idl
set_option linter.all false
open Go.RowKit
variable [Laid]
inductive A where
  | t (slot : Nat)
  | k (v : V)
def A.get (τ : Nat → V) : A → V
  | .t n => τ n
  | .k v => v
def A.of : Operand → A
  | .tmp n => .t n
  | .const v => .k (V.ofV v)
  | .global g => .k (.sc (.pointer (some ⟨g, 0, none⟩)))
  | .func f => .k (.sc (.func (.func f) #[] #[]))
theorem A.get_of (τ : Nat → V) (x : Operand) : (A.of x).get τ = opd τ x := by cases x <;> rfl
inductive Ins where
  | mv (x : A)
  | pick (c x y : A)
  | al (z : V) (n : Nat)
  | bx (x : A)
  | ld (ag : Option Nat) (x : A)
  | st (n : Nat) (x y : A)
  | sh (off : Nat) (x : A)
  | ixs (sz : Nat) (x i : A)
  | ixa (len sz : Nat) (x i : A)
  | fld (ag : Option Nat) (off : Nat) (x : A)
  | ext (x : A) (i : Nat)
  | bld (zero : List V) (parts : List (Nat × Nat × A))
  | bsl (sz len : Nat) (ag : Bool) (zero : List V) (parts : List (Nat × Nat × A))
  | mks (sz bytes : Nat) (z : V) (l c : A)
  | sl (sz : Nat) (x : A) (lo hi mx : Option A) (o : Oper)
  | sls (x : A) (o : Oper)
  | bin (op : BinOp) (isB : Bool) (x y : A) (o : Oper)
  | un (op : UnOp) (x : A) (o : Oper)
  | len (x : A) (o : Oper)
  | lens (x : A) (o : Oper)
  | app (sz bytes : Nat) (x y : A)
  | call (f : FuncId) (xs : List A)
  | callv (x : A) (xs : List A)
  | opx (o : Oper)
  | mkf (fn : Fn) (first captured : List A)
  | rng (x : A)
  | nxt (x : A)
  | nck (x : A) (o : Oper)
  | pur (o : Oper)
  | mmk (r : Option A)
  | mpt (ag : Bool) (ks : List CK) (x k v : A)
  | mlk (ag : Bool) (ks : List CK) (z : V) (b : Bool) (x k : A) (o : Oper)
  | mdl (ag : Bool) (ks : List CK) (x k : A) (o : Oper)
  | mln (x : A) (o : Oper)
def readI (ag : Option Nat) (cells : List V) (off : Nat) : Option V := match ag with
  | some n => if off + n ≤ cells.length then some (.agg ((cells.drop off).take n)) else none
  | none => cells[off]?
def fillI (cells : List V) : List (Nat × Nat × V) → Option (List V)
  | [] => some cells
  | (off, size, v) :: rest => if v.solid = true ∧ v.cells.length = size ∧ off + size ≤ cells.length then fillI (splice cells off v.cells) rest else none
def getP (τ : Nat → V) (ps : List (Nat × Nat × A)) : List (Nat × Nat × V) := ps.map fun p => (p.1, p.2.1, p.2.2.get τ)
def frzP (h : Heap) (ps : List (Nat × Nat × V)) : List (Nat × Nat × V) := ps.map fun p => (p.1, p.2.1, frz1 h p.2.2)
def idsP (ps : List (Nat × Nat × V)) : List Nat := ps.flatMap fun p => p.2.2.ids
def okE (sz : Nat) (y : V) : Bool := decide (y.cells.length = sz) && y.isF
def idxI (ag : Bool) (ks : List CK) (kv : Value) (keys : List Value) : Option (Option Nat) := if kv.cells.size = ks.length then keyFind ag ks kv.cells.toList keys 0 else none
def mmkI (n : Nat) : Option V → Obj → Option (V × List (Nat × Obj))
  | none, .unborn => some (.mapr n, [(n, .ext (.map [] []))])
  | some (.sc (.int _ _)), .unborn => some (.mapr n, [(n, .ext (.map [] []))])
  | _, _ => none
def lookF (z : V) (b : Bool) (vs : List V) : Option (Option Nat) → Option (V × List (Nat × Obj))
  | some (some i) => (vs[i]?).map fun v => (lookV b v true, [])
  | some none => some (lookV b z false, [])
  | none => none
def lookI (ag : Bool) (ks : List CK) (z : V) (b : Bool) : Option Value → Obj → Option (V × List (Nat × Obj))
  | some kv, .ext (.map keys vs) => lookF z b vs (idxI ag ks kv keys)
  | _, _ => none
def putF' (id : Nat) (kv : Value) (v : V) (keys : List Value) (vs : List V) : Option (Option Nat) → Option (V × List (Nat × Obj))
  | some (some i) => some (.any, [(id, .ext (.map (keys.set i kv) (vs.set i v)))])
  | some none => some (.any, [(id, .ext (.map (keys ++ [kv]) (vs ++ [v])))])
  | none => none
def putI (ag : Bool) (ks : List CK) (id : Nat) (v : V) : Option Value → Obj → Option (V × List (Nat × Obj))
  | some kv, .ext (.map keys vs) => putF' id kv v keys vs (idxI ag ks kv keys)
  | _, _ => none
def delF (id : Nat) (keys : List Value) (vs : List V) : Option (Option Nat) → Option (V × List (Nat × Obj))
  | some (some i) => some (.sc (.tuple #[]), [(id, .ext (.map (keys.eraseIdx i) (vs.eraseIdx i)))])
  | some none => some (.sc (.tuple #[]), [(id, .ext (.map keys vs))])
  | none => none
def delI (ag : Bool) (ks : List CK) (id : Nat) : Option Value → Obj → Option (V × List (Nat × Obj))
  | some kv, .ext (.map keys vs) => delF id keys vs (idxI ag ks kv keys)
  | _, _ => none
def lenM : Obj → Option (V × List (Nat × Obj))
  | .ext (.map keys _) => some (.sc (.int .i64 (keys.length : Int)), [])
  | _ => none
def evIO (P : Program) (Φ : Specs) (nid : Nat) (τ : Nat → V) (h : Heap) : Ins → Option (V × List (Nat × Obj))
  | .mv x => some (x.get τ, [])
  | .pick c x y => match c.get τ with
    | .sc (.bool t) => some (if t then x.get τ else y.get τ, [])
    | _ => none
  | .al z n => match h nid with
    | .unborn => some (.ref nid 0 0, [(nid, .live n [z] true)])
    | _ => none
  | .bx x => evBox nid h (x.get τ)
  | .ld ag x => match x.get τ with
    | .ref id idx off => match h id with
      | .live _ es _ => (es[idx]?).bind fun e => (readI ag e.cells off).map (·, [])
      | _ => none
    | .elem e off => (readI ag e.cells off).map (·, [])
    | _ => none
  | .st n x y => match x.get τ with
    | .ref id idx off => match h id with
      | .live sz es true => (es[idx]?).bind fun e => if (y.get τ).solid = true ∧ (y.get τ).cells.length = n ∧ 0 < n ∧ off + n ≤ sz then some (.any, [(id, .live sz (es.set idx (e.write off (y.get τ))) true)]) else none
      | _ => none
    | _ => none
  | .sh off x => (shift off (x.get τ)).map (·, [])
  | .ixs sz x i => match i.get τ with
    | .sc (.int _ n) => match x.get τ with
      | .slice s es => if s = sz ∧ 0 ≤ n then (es[n.toNat]?).map fun e => (.elem e 0, []) else none
      | .own id off len => match h id with
        | .live s _ _ => if s = sz ∧ 0 ≤ n ∧ n < len then some (.ref id (off + n.toNat) 0, []) else none
        | _ => none
      | _ => none
    | _ => none
  | .ixa len sz x i => match i.get τ with
    | .sc (.int _ n) => if 0 ≤ n ∧ n < len then (shift (n.toNat * sz) (x.get τ)).map (·, []) else none
    | _ => none
  | .fld ag off x => match x.get τ with
    | .agg cs => (readI ag cs off).map (·, [])
    | _ => none
  | .ext x i => match x.get τ with
    | .tup vs => (vs[i]?).map (·, [])
    | _ => none
  | .bld zero ps => (fillI zero (getP τ ps)).map fun cs => (.agg cs, [])
  | .bsl sz len ag zero ps => match h nid with
    | .unborn => addD (froze h (idsP (getP τ ps))) ((fillI zero (frzP h (getP τ ps))).bind fun cs => if ag = true ∨ (sz = 1 ∧ cs.all V.cellOk = true) then some (.own nid 0 len, [(nid, .live sz (chunks ag sz cs len) true)]) else none)
    | _ => none
  | .mks sz bytes z l c => match h nid, l.get τ, c.get τ with
    | .unborn, .sc (.int .i64 l), .sc (.int .i64 c) => if 0 ≤ l ∧ l ≤ c ∧ c ≤ 4294967296 ∧ bytes * c.toNat ≤ 281474976710656 then some (.own nid 0 l.toNat, [(nid, .live sz (List.replicate l.toNat z) true)]) else none
    | _, _, _ => none
  | .sl sz x lo hi mx o => match x.get τ with
    | .sc (.string _) => evPure P (opd τ) o
    | v => evSliceI h sz v (lo.map (A.get τ)) (hi.map (A.get τ)) (mx.map (A.get τ))
  | .sls x o => match x.get τ with
    | .sc (.string _) => evPure P (opd τ) o
    | _ => none
  | .bin op isB x y o => evBin P (opd τ) o op isB (x.get τ) (y.get τ)
  | .un op x o => evUn P (opd τ) o op (x.get τ)
  | .len x o => match x.get τ with
    | .sc _ => evPure P (opd τ) o
    | y => (y.len).map fun (n : Nat) => (V.sc (.int .i64 (n : Int)), [])
  | .lens x o => match x.get τ with
    | .sc _ => evPure P (opd τ) o
    | _ => none
  | .app sz bytes x y => match h nid with
    | .unborn => (news h sz (y.get τ)).bind fun ys => match x.get τ with
      | .own id off len => match h id with
        | .live s es mu => if s = sz ∧ off + len = es.length ∧ (len + ys.length) * bytes ≤ 68719476736 ∧ len + ys.length ≤ 4294967296 ∧ ys.all (okE sz) = true
          then some (.own nid 0 (len + ys.length), [(id, .dead), (nid, .live sz (es.drop off ++ ys) mu)]) else none
        | _ => none
      | .mt => if ys.length * bytes ≤ 68719476736 ∧ ys.length ≤ 4294967296 ∧ ys.all (okE sz) = true then some (.own nid 0 ys.length, [(nid, .live sz ys true)]) else none
      | .sc (.slice none 0 0) => if ys.length * bytes ≤ 68719476736 ∧ ys.length ≤ 4294967296 ∧ ys.all (okE sz) = true then some (.own nid 0 ys.length, [(nid, .live sz ys true)]) else none
      | _ => none
    | _ => none
  | .callv _ _ => none
  | .opx _ => none
  | .mkf fn xs ys => some (.fn fn (xs.map (A.get τ)) (ys.map (A.get τ)), [])
  | .call f xs => (Φ f).bind fun F => (freezes h ((xs.map (A.get τ)).map noRef)).bind fun ys => (F ys).map fun r => (r, froze h ((xs.map (A.get τ)).flatMap V.ids))
  | .rng x => match x.get τ with
    | .sc (.string s) => match h nid with
      | .unborn => some (.ref nid 0 0, [(nid, .ext (.iter s 0))])
      | _ => none
    | _ => none
  | .nxt x => match x.get τ with
    | .ref id 0 0 => match h id with
      | .ext (.iter s pos) => if pos < s.size then some (.tup [.sc (.bool true), .sc (.int .i64 pos), .sc (.int .i32 (Utf8.decode s pos).1)], [(id, .ext (.iter s (pos + (Utf8.decode s pos).2)))])
          else some (.tup [.sc (.bool false)], [])
      | _ => none
    | _ => none
  | .nck x o => match x.get τ with
    | .ref id idx off => some (.ref id idx off, [])
    | .elem e off => some (.elem e off, [])
    | _ => evPure P (opd τ) o
  | .pur o => evPure P (opd τ) o
  | .mmk r => mmkI nid (r.map (A.get τ)) (h nid)
  | .mpt ag ks x k v => match x.get τ with
    | .mapr id => putI ag ks id (v.get τ) (kvOf ag (k.get τ)) (h id)
    | _ => none
  | .mlk ag ks z b x k o => match x.get τ with
    | .mapr id => lookI ag ks z b (kvOf ag (k.get τ)) (h id)
    | .mapf keys vs => lookI ag ks z b (kvOf ag (k.get τ)) (.ext (.map keys vs))
    | _ => evPure P (opd τ) o
  | .mdl ag ks x k o => match x.get τ with
    | .mapr id => delI ag ks id (kvOf ag (k.get τ)) (h id)
    | _ => evPure P (opd τ) o
  | .mln x o => match x.get τ with
    | .mapr id => lenM (h id)
    | .mapf keys vs => lenM (.ext (.map keys vs))
    | .sc _ => evPure P (opd τ) o
    | _ => none
def needI (nid : Nat) (τ : Nat → V) : Ins → List Nat
  | .al _ _ => [nid]
  | .bx _ => [nid]
  | .bsl _ _ _ _ ps => nid :: idsP (getP τ ps)
  | .mks _ _ _ _ _ => [nid]
  | .rng _ => [nid]
  | .nxt x => match x.get τ with
    | .ref id _ _ => [id]
    | _ => []
  | .ld _ x => match x.get τ with
    | .ref id _ _ => [id]
    | _ => []
  | .st _ x _ => match x.get τ with
    | .ref id _ _ => [id]
    | _ => []
  | .ixs _ x _ => (x.get τ).ids
  | .ixa _ _ x _ => (x.get τ).ids
  | .sl _ x _ _ _ _ => (x.get τ).ids
  | .sls x _ => (x.get τ).ids
  | .app _ _ x y => nid :: ((x.get τ).ids ++ (y.get τ).ids)
  | .call _ xs => xs.flatMap fun x => (x.get τ).ids
  | .callv _ xs => xs.flatMap fun x => (x.get τ).ids
  | .opx o => need nid (opd τ) o
  | .mmk _ => [nid]
  | .mpt _ _ x _ _ => idM (x.get τ)
  | .mlk _ _ _ _ x _ _ => idM (x.get τ)
  | .mdl _ _ x _ _ => idM (x.get τ)
  | .mln x _ => idM (x.get τ)
  | .len x _ => idM (x.get τ)
  | .lens x _ => idM (x.get τ)
  | _ => []
def agOf (P : Program) (t : TypeId) : Option (Option Nat) :=
  if aggT P t then (sizeT P t).map some else (P.underlying t).map fun _ => none
def cOp (P : Program) (o : Oper) : Option Ins :=
  match o.op with
  | .move x => some (.mv (A.of x))
  | .assign x => some (.mv (A.of x))
  | .pick c x y => some (.pick (A.of c) (A.of x) (A.of y))
  | .alloc t => (zeroT P t).map fun z => .al (V.ofV z) z.cells.size
  | .box _ x => some (.bx (A.of x))
  | .load t x => (agOf P t).map fun ag => .ld ag (A.of x)
  | .store t x y => (sizeT P t).map fun n => .st n (A.of x) (A.of y)
  | .fieldAddr s x f => (fieldT P s f).bind fun fd => if sizeT P fd.type = some 0 ∨ sizeT P fd.type = none then none else some (.sh fd.offset (A.of x))
  | .indexAddr t x i => match P.underlying t with
    | some (.slice et) => (sizeT P et).map fun sz => .ixs sz (A.of x) (A.of i)
    | some (.array len et) => (sizeT P et).map fun sz => .ixa len sz (A.of x) (A.of i)
    | _ => none
  | .field s x f => (fieldT P s f).bind fun fd => (agOf P fd.type).map fun ag => .fld ag fd.offset (A.of x)
  | .extract x i => some (.ext (A.of x) i)
  | .build t parts => (zeroT P t).bind fun z => match P.underlying t with
    | some (.struct fs) => if fs.toList.all (fun f => (sizeT P f.type).isSome) = true ∧ parts.toList.all (fun p => (fs[p.1]?).isSome) = true then
        some (.bld (V.ofV z).cells (parts.toList.map fun p => (((fs[p.1]?).map (·.offset)).getD 0, ((fs[p.1]?).bind fun f => sizeT P f.type).getD 0, A.of p.2))) else none
    | some (.array _ e) => (sizeT P e).map fun n => .bld (V.ofV z).cells (parts.toList.map fun p => (p.1 * n, n, A.of p.2))
    | _ => none
  | .buildSlice t len parts => (elemT P t).bind fun et => match sizeT P et, zeroT P et with
    | some sz, some z => if z.cells.size = sz ∧ 0 < sz ∧ len * sz ≤ 16777216 then some (.bsl sz len (aggT P et) (zeros z len) (parts.toList.map fun p => (p.1 * sz, sz, A.of p.2))) else none
    | _, _ => none
  | .makeSlice t l c => (elemT P t).bind fun et => match P.info? et, zeroT P et with
    | some i, some z => if z.cells.size = i.size ∧ 0 < i.size then some (.mks i.size i.bytes (V.ofV z) (A.of l) (A.of c)) else none
    | _, _ => none
  | .slice t x lo hi mx => if strT P t = true then some (.sls (A.of x) (lean o)) else (elemT P t).bind fun et => (sizeT P et).map fun sz => .sl sz (A.of x) (lo.map A.of) (hi.map A.of) (mx.map A.of) (lean o)
  | .binOp op t x y _ => some (.bin op (boolT P t) (A.of x) (A.of y) (lean o))
  | .unOp op _ x => some (.un op (A.of x) (lean o))
  | .range t x => if strT P t = true then some (.rng (A.of x)) else some (.opx (lean o))
  | .next x str => if str = true then some (.nxt (A.of x)) else some (.opx (lean o))
  | .call c => match c.callee with
    | .builtin .len => match c.args.toList, c.argTypes.toList with
      | [x], [t] => match P.underlying t with
        | some (.slice _) => some (.len (A.of x) (lean o))
        | some (.map _ _) => some (.mln (A.of x) (lean o))
        | _ => some (.lens (A.of x) (lean o))
      | _, _ => none
    | .builtin .append => match c.args.toList, c.argTypes.toList with
      | [x, y], [t, t'] => if t = t' ∨ strT P t' = true then (elemT P t).bind fun et => match P.info? et, zeroT P et with
          | some i, some z => if z.cells.size = i.size ∧ 0 < i.size then some (.app i.size i.bytes (A.of x) (A.of y)) else none
          | _, _ => none
        else none
      | _, _ => none
    | .builtin .delete => match c.args.toList, c.argTypes.toList with
      | [x, y], [t, _] => (mapKV P t).map fun q => .mdl (aggT P q.1) q.2.2 (A.of x) (A.of y) (lean o)
      | _, _ => none
    | .builtin _ => some (.pur (lean o))
    | .value (.func f) => if enters P f = true then some (.call f (c.args.toList.map A.of)) else some (.opx (lean o))
    | .value x => some (.callv (A.of x) (c.args.toList.map A.of))
    | _ => none
  | .nilCheck x => some (.nck (A.of x) (lean o))
  | .makeFunc fn xs ys => some (.mkf fn (xs.toList.map A.of) (ys.toList.map A.of))
  | .makeMap t r => (mapKV P t).map fun _ => .mmk (r.map A.of)
  | .mapUpdate t m k v => (mapKV P t).map fun q => .mpt (aggT P q.1) q.2.2 (A.of m) (A.of k) (A.of v)
  | .lookup t m k b => (mapKV P t).bind fun q => (zeroT P q.2.1).map fun z => .mlk (aggT P q.1) q.2.2 (V.ofV z) b (A.of m) (A.of k) (lean o)
  | _ => some (.pur (lean o))
theorem evPure_lean (P : Program) (ρ : Operand → V) (o : Oper) : evPure P ρ (lean o) = evPure P ρ o := by
  have e : ∀ ρ' : Operand → Value, execOp ρ' (lean o) = execOp ρ' o := fun ρ' => by
    unfold execOp lean
    dsimp only
  unfold evPure
  simp only [e]
  rfl
theorem readI_eq {P : Program} {t : TypeId} {ag : Option Nat} (h : agOf P t = some ag) (cells : List V) (off : Nat) : readC P t cells off = readI ag cells off := by
  unfold agOf at h
  unfold readC readI
  split at h
  · rename_i ha
    rw [if_pos ha]
    simp only [Option.map_eq_some_iff] at h
    obtain ⟨n, hn, rfl⟩ := h
    simp [hn]
  · rename_i ha
    rw [if_neg ha]
    simp only [Option.map_eq_some_iff] at h
    obtain ⟨d, hd, rfl⟩ := h
    simp [hd]
theorem fill_eq (place : Nat → Option (Nat × Nat)) (f : Nat → Nat × Nat) : ∀ (ps : List (Nat × V)) (cells : List V), (∀ p, p ∈ ps → place p.1 = some (f p.1)) →
    fillV place cells ps = fillI cells (ps.map fun p => ((f p.1).1, (f p.1).2, p.2))
  | [], cells, _ => rfl
  | (i, v) :: ps, cells, h => by
    have h0 := h (i, v) (by simp)
    simp only [fillV, h0, fillI, List.map_cons]
    rw [fill_eq place f ps _ (fun p hp => h p (by simp [hp]))]
theorem map_of (τ : Nat → V) (xs : List Operand) : (xs.map A.of).map (A.get τ) = xs.map (opd τ) := by
  rw [List.map_map]
  exact List.map_congr_left fun x _ => A.get_of τ x
theorem okE_all (sz : Nat) (ys : List V) : ys.all (okE sz) = true ↔ ys.all (fun y => y.cells.length = sz) = true ∧ ys.all V.isF = true := by
  simp only [List.all_eq_true, okE, Bool.and_eq_true]
  constructor
  · intro h; exact ⟨fun x hx => (h x hx).1, fun x hx => (h x hx).2⟩
  · intro h x hx; exact ⟨h.1 x hx, h.2 x hx⟩
theorem orE_none {α : Type} (x : Option α) : orE x none = x := by cases x <;> rfl
theorem orE_left {α : Type} {x y : Option α} {r : α} (h : x = some r) : orE x y = some r := by rw [h]; rfl
theorem orE_right {α : Type} {x y : Option α} {r : α} (h : x = none) (h' : y = some r) : orE x y = some r := by rw [h, h']; rfl
theorem evPure_mapr {P : Program} {ρ : Operand → V} {o : Oper} {x : Operand} {id : Nat} (hx : x ∈ o.op.operands) (h : ρ x = .mapr id) : evPure P ρ o = none := by
  unfold evPure
  rw [if_neg]
  intro hall
  have := Array.all_eq_true_iff_forall_mem.1 hall x hx
  simp [h, V.conc] at this
theorem evPure_mapf {P : Program} {ρ : Operand → V} {o : Oper} {x : Operand} {ks : List Value} {vs : List V} (hx : x ∈ o.op.operands) (h : ρ x = .mapf ks vs) : evPure P ρ o = none := by
  unfold evPure
  rw [if_neg]
  intro hall
  have := Array.all_eq_true_iff_forall_mem.1 hall x hx
  simp [h, V.conc] at this
theorem makeMap_impure {P : Program} {β : Type} (t : TypeId) (r : Option Value) (f : Value → Sem β) : runPure P (Instr.makeMap t r >>= f) = none := by
  have : runPure P (Instr.makeMap t r) = none := by
    unfold Instr.makeMap
    cases r with
    | none => rfl
    | some v =>
      rw [runPure_bind]
      cases hu : runPure P (underlying t) with
      | none => rfl
      | some d =>
        rw [Option.bind_some]
        cases d <;> first
          | rfl
          | (rw [runPure_bind]; cases runPure P (asInt v) <;> rfl)
  rw [runPure_bind, this]
  rfl
set_option maxHeartbeats 1000000 in
theorem cOp_eq {P : Program} {Φ : Specs} {nid : Nat} {τ : Nat → V} {h : Heap} {o : Oper} {io : Ins} (hc : cOp P o = some io) :
    (∀ r, evIO P Φ nid τ h io = some r → evOp P Φ nid (opd τ) h o = some r) ∧ needI nid τ io = need nid (opd τ) o := by
  unfold cOp at hc
  unfold evOp need evOp0 need0 mapEv mapNeed
  cases ho : o.op <;> rw [ho] at hc <;> dsimp only at hc ⊢ <;> try simp only [orE_none, List.nil_append]
  case move x => cases hc; simp [evIO, needI, A.get_of]
  case assign x => cases hc; simp [evIO, needI, A.get_of]
  case pick c x y =>
    cases hc
    refine ⟨fun r hr => ?_, rfl⟩
    simp only [evIO, A.get_of] at hr
    generalize opd τ c = vc at hr ⊢
    cases vc with
    | sc u => cases u <;> first | exact hr | cases hr
    | _ => cases hr
  case alloc t =>
    simp only [Option.map_eq_some_iff] at hc
    obtain ⟨z, hz, rfl⟩ := hc
    refine ⟨fun r hr => ?_, rfl⟩
    simp only [evIO] at hr
    simp only [evAlloc, hz]
    split at hr
    · rename_i h0; rw [h0]; exact hr
    · cases hr
  case box t x => cases hc; simp [evIO, needI, A.get_of]
  case load t x =>
    simp only [Option.map_eq_some_iff] at hc
    obtain ⟨ag, hag, rfl⟩ := hc
    refine ⟨fun r hr => ?_, ?_⟩
    · simp only [evIO, A.get_of] at hr
      simp only [evLoad, readI_eq hag]
      generalize opd τ x = vx at hr ⊢
      cases vx with
      | ref id idx off =>
        dsimp only at hr ⊢
        generalize h id = ob at hr ⊢
        cases ob with
        | live sz es mu =>
          simp only [Option.bind_eq_some_iff, Option.map_eq_some_iff] at hr ⊢
          obtain ⟨e, he, v, hv, rfl⟩ := hr
          exact ⟨v, ⟨e, he, hv⟩, rfl⟩
        | _ => cases hr
      | elem e off => exact hr
      | _ => cases hr
    · simp only [needI, A.get_of]
      generalize opd τ x = vx
      cases vx <;> rfl
  case store t x y =>
    simp only [Option.map_eq_some_iff] at hc
    obtain ⟨n, hn, rfl⟩ := hc
    refine ⟨fun r hr => ?_, ?_⟩
    · simp only [evIO, A.get_of] at hr
      simp only [evStore, hn]
      generalize opd τ x = vx at hr ⊢
      cases vx with
      | ref id idx off =>
        dsimp only at hr ⊢
        generalize h id = ob at hr ⊢
        cases ob with
        | live sz es mu =>
          cases mu with
          | false => cases hr
          | true =>
            simp only [Option.bind_eq_some_iff] at hr
            obtain ⟨e, he, hr⟩ := hr
            simp only [he]
            split at hr
            · rename_i hcond
              rw [if_pos hcond]
              cases hr
              rfl
            · cases hr
        | _ => cases hr
      | _ => cases hr
    · simp only [needI, A.get_of]
      generalize opd τ x = vx
      cases vx <;> rfl
  case fieldAddr s x f =>
    cases hf : fieldT P s f with
    | none => simp [hf] at hc
    | some fd =>
      simp only [hf, Option.bind_some] at hc
      split at hc
      · cases hc
      · rename_i hsz
        cases hc
        refine ⟨fun r hr => ?_, rfl⟩
        simp only [evIO, A.get_of] at hr
        simp only [evFieldAddr, hf, Option.bind_some, if_neg hsz]
        exact hr
  case indexAddr t x i =>
    split at hc
    · rename_i et hut
      simp only [Option.map_eq_some_iff] at hc
      obtain ⟨sz, hsz, rfl⟩ := hc
      refine ⟨fun r hr => ?_, by simp only [needI, A.get_of]⟩
      simp only [evIO, A.get_of] at hr
      simp only [evIndexAddr, hut, hsz, Option.bind_some]
      generalize opd τ i = vi at hr ⊢
      cases vi with
      | sc u =>
        cases u with
        | int k n =>
          dsimp only at hr ⊢
          generalize opd τ x = vx at hr ⊢
          cases vx with
          | slice s es =>
            dsimp only at hr ⊢
            split at hr
            · rename_i hcond
              rw [if_pos hcond]
              simp only [Option.map_eq_some_iff] at hr ⊢
              obtain ⟨e, he, rfl⟩ := hr
              exact ⟨_, ⟨e, he, rfl⟩, rfl⟩
            · cases hr
          | own id off len =>
            dsimp only at hr ⊢
            generalize h id = ob at hr ⊢
            cases ob with
            | live s es mu =>
              dsimp only at hr ⊢
              split at hr
              · rename_i hcond; simp only [if_pos hcond]; cases hr; rfl
              · cases hr
            | _ => cases hr
          | _ => cases hr
        | _ => cases hr
      | _ => cases hr
    · rename_i len et hut
      simp only [Option.map_eq_some_iff] at hc
      obtain ⟨sz, hsz, rfl⟩ := hc
      refine ⟨fun r hr => ?_, by simp only [needI, A.get_of]⟩
      simp only [evIO, A.get_of] at hr
      simp only [evIndexAddr, hut, hsz, Option.bind_some]
      generalize opd τ i = vi at hr ⊢
      cases vi with
      | sc u =>
        cases u with
        | int k n =>
          dsimp only at hr ⊢
          split at hr
          · rename_i hcond; rw [if_pos hcond]; exact hr
          · cases hr
        | _ => cases hr
      | _ => cases hr
    · cases hc
  case field s x f =>
    cases hf : fieldT P s f with
    | none => simp [hf] at hc
    | some fd =>
      simp only [hf, Option.bind_some, Option.map_eq_some_iff] at hc
      obtain ⟨ag, hag, rfl⟩ := hc
      refine ⟨fun r hr => ?_, rfl⟩
      simp only [evIO, A.get_of] at hr
      generalize opd τ x = vx at hr ⊢
      cases vx with
      | agg cs => simp only [Option.bind_some, readI_eq hag]; exact hr
      | _ => cases hr
  case extract x i =>
    cases hc
    refine ⟨fun r hr => ?_, rfl⟩
    simp only [evIO, A.get_of] at hr
    generalize opd τ x = vx at hr ⊢
    cases vx with
    | tup vs => exact hr
    | _ => cases hr
  case build t parts =>
    cases hz : zeroT P t with
    | none => simp [hz] at hc
    | some z =>
      simp only [hz, Option.bind_some] at hc
      split at hc
      · rename_i fs hfs
        split at hc
        · rename_i hall
          cases hc
          refine ⟨fun r hr => ?_, rfl⟩
          simp only [evIO] at hr
          simp only [evBuild, hz, Option.bind_some, hfs, if_pos hall.1]
          rw [fill_eq _ (fun i => (((fs[i]?).map (·.offset)).getD 0, ((fs[i]?).bind fun f => sizeT P f.type).getD 0)) _ _ (fun p hp => by
            simp only [List.mem_map] at hp
            obtain ⟨q, hq, rfl⟩ := hp
            have h1 := List.all_eq_true.1 hall.2 q hq
            obtain ⟨fd, hfd⟩ := Option.isSome_iff_exists.1 h1
            have h2 := List.all_eq_true.1 hall.1 fd (by simpa using Array.mem_of_getElem? hfd)
            obtain ⟨m, hm⟩ := Option.isSome_iff_exists.1 h2
            simp [hfd, hm])]
          simp only [getP, List.map_map, Function.comp_def, A.get_of] at hr ⊢
          simp only [Option.map_eq_some_iff] at hr ⊢
          obtain ⟨cs, hcs, rfl⟩ := hr
          exact ⟨_, ⟨cs, hcs, rfl⟩, rfl⟩
        · cases hc
      · rename_i n e hfs
        simp only [Option.map_eq_some_iff] at hc
        obtain ⟨m, hm, rfl⟩ := hc
        refine ⟨fun r hr => ?_, rfl⟩
        simp only [evIO] at hr
        simp only [evBuild, hz, Option.bind_some, hfs, hm]
        rw [fill_eq _ (fun i => (i * m, m)) _ _ (fun p hp => rfl)]
        simp only [getP, List.map_map, Function.comp_def, A.get_of] at hr ⊢
        simp only [Option.map_eq_some_iff] at hr ⊢
        obtain ⟨cs, hcs, rfl⟩ := hr
        exact ⟨_, ⟨cs, hcs, rfl⟩, rfl⟩
      · cases hc
  case buildSlice t len parts =>
    cases het : elemT P t with
    | none => simp [het] at hc
    | some et =>
      simp only [het, Option.bind_some] at hc
      split at hc
      · rename_i sz z hsz hz
        split at hc
        · rename_i hcond
          cases hc
          refine ⟨fun r hr => ?_, by simp only [needI, idsP, getP, List.map_map, List.flatMap_map, Function.comp_def, A.get_of]⟩
          simp only [evIO] at hr
          split at hr
          · rename_i h0
            simp only [evBsl, evBuildSlice, h0, het, hsz, hz, if_pos hcond]
            rw [fill_eq _ (fun i => (i * sz, sz)) _ _ (fun p hp => rfl)]
            simp only [frzP, idsP, getP, List.map_map, List.flatMap_map, Function.comp_def, A.get_of] at hr ⊢
            exact hr
          · cases hr
        · cases hc
      · cases hc
  case makeSlice t l c =>
    cases het : elemT P t with
    | none => simp [het] at hc
    | some et =>
      simp only [het, Option.bind_some] at hc
      split at hc
      · rename_i i z hi hz
        split at hc
        · rename_i hcond
          cases hc
          refine ⟨fun r hr => ?_, rfl⟩
          simp only [evIO, A.get_of] at hr
          split at hr
          · rename_i l' c' h0 hl hc'
            split at hr
            · rename_i hb
              simp only [evMakeSlice, h0, hl, hc', het, hi, hz]
              rw [if_pos ⟨hcond.1, hcond.2, hb.1, hb.2.1, hb.2.2.1, hb.2.2.2⟩]
              exact hr
            · cases hr
          · cases hr
        · cases hc
      · cases hc
  case slice t x lo hi mx =>
    split at hc
    · cases hc
      refine ⟨fun r hr => ?_, by simp only [needI, A.get_of]⟩
      simp only [evIO, A.get_of, evPure_lean] at hr
      generalize hv : opd τ x = vx at hr ⊢
      cases vx with
      | sc u => cases u <;> first | exact hr | cases hr
      | _ => cases hr
    · cases het : elemT P t with
      | none => simp [het] at hc
      | some et =>
        simp only [het, Option.bind_some, Option.map_eq_some_iff] at hc
        obtain ⟨sz, hsz, rfl⟩ := hc
        refine ⟨fun r hr => ?_, by simp only [needI, A.get_of]⟩
        have e1 : (lo.map A.of).map (A.get τ) = lo.map (opd τ) := by cases lo <;> simp [A.get_of]
        have e2 : (hi.map A.of).map (A.get τ) = hi.map (opd τ) := by cases hi <;> simp [A.get_of]
        have e3 : (mx.map A.of).map (A.get τ) = mx.map (opd τ) := by cases mx <;> simp [A.get_of]
        simp only [evIO, A.get_of, evPure_lean, e1, e2, e3] at hr
        have hs : ∀ v, evSlice P h t v (lo.map (opd τ)) (hi.map (opd τ)) (mx.map (opd τ)) = evSliceI h sz v (lo.map (opd τ)) (hi.map (opd τ)) (mx.map (opd τ)) := fun v => by
          simp only [evSlice, het, hsz, Option.bind_some]
        simp only [hs]
        generalize hv : opd τ x = vx at hr ⊢
        cases vx with
        | sc u => cases u <;> exact hr
        | _ => exact hr
  case binOp op t x y t' => cases hc; simp [evIO, needI, A.get_of, evBin, evPure_lean]
  case unOp op t x => cases hc; simp [evIO, needI, A.get_of, evUn, evPure_lean]
  case range t x =>
    split at hc
    · rename_i hst
      cases hc
      refine ⟨fun r hr => ?_, rfl⟩
      simp only [evIO, A.get_of] at hr
      generalize opd τ x = vx at hr ⊢
      cases vx with
      | sc u =>
        cases u with
        | string s =>
          dsimp only at hr ⊢
          rw [if_pos hst]
          generalize h nid = ob at hr ⊢
          cases ob <;> first | exact hr | cases hr
        | _ => cases hr
      | _ => cases hr
    · cases hc
      refine ⟨fun r hr => (by cases hr), ?_⟩
      simp only [needI, need, need0, mapNeed, lean, ho, List.nil_append]
  case next x str =>
    split at hc
    · rename_i hst
      cases hc
      subst hst
      refine ⟨fun r hr => ?_, ?_⟩
      · simp only [evIO, A.get_of] at hr
        generalize opd τ x = vx at hr ⊢
        cases vx with
        | ref id idx off =>
          cases idx with
          | zero =>
            cases off with
            | zero =>
              simp only [] at hr ⊢
              generalize h id = ob at hr ⊢
              cases ob with
              | ext x =>
                cases x with
                | iter s pos => simp only [if_true]; exact hr
                | map => cases hr
                | raw => cases hr
                | miter => cases hr
              | _ => cases hr
            | succ => cases hr
          | succ => cases hr
        | _ => cases hr
      · simp only [needI, A.get_of]
        generalize opd τ x = vx
        cases vx <;> rfl
    · cases hc
      refine ⟨fun r hr => (by cases hr), ?_⟩
      simp only [needI, need, need0, mapNeed, lean, ho, List.nil_append]
  case nilCheck x =>
    cases hc
    refine ⟨fun r hr => ?_, rfl⟩
    simp only [evIO, A.get_of, evPure_lean] at hr
    generalize opd τ x = vx at hr ⊢
    cases vx <;> exact hr
  case makeFunc =>
    cases hc
    refine ⟨fun r hr => ?_, rfl⟩
    simp only [evIO, map_of] at hr
    exact hr
  case call c =>
    cases hcal : c.callee with
    | invoke r m => simp only [hcal] at hc; cases hc
    | value f =>
      cases f with
      | func f =>
        simp only [hcal] at hc
        split at hc
        · cases hc
          refine ⟨fun r hr => orE_left ?_, ?_⟩
          · simp only [evIO, map_of] at hr
            exact hr
          · simp only [needI, List.flatMap_map, A.get_of, List.nil_append]
        · cases hc
          refine ⟨fun r hr => ?_, ?_⟩
          · simp only [evIO] at hr; cases hr
          · simp only [needI]; unfold need need0 mapNeed lean; simp only [ho, hcal, List.nil_append]
      | _ =>
        simp only [hcal] at hc
        cases hc
        refine ⟨fun r hr => orE_left ?_, ?_⟩
        · simp only [evIO] at hr; cases hr
        · simp only [needI, List.flatMap_map, A.get_of, List.nil_append]
    | builtin b =>
      simp only [hcal] at hc
      cases b
      case len =>
        simp only at hc ⊢
        split at hc
        · rename_i x t hxs hts
          simp only [hxs, hts]
          split at hc
          · rename_i e hut
            cases hc
            refine ⟨fun r hr => orE_left ?_, by simp [needI, A.get_of]⟩
            simp only [evIO, A.get_of, evPure_lean] at hr
            generalize opd τ x = vx at hr ⊢
            cases vx with
            | sc u => exact hr
            | _ => simp only [hut]; exact hr
          · rename_i kt et hut
            cases hc
            refine ⟨fun r hr => ?_, by simp [needI, A.get_of]⟩
            simp only [evIO, A.get_of, evPure_lean] at hr
            simp only [mapLen, hut]
            generalize opd τ x = vx at hr ⊢
            cases vx with
            | sc u => exact orE_left hr
            | mapr id =>
              refine orE_right rfl ?_
              simp only [mapOf] at hr ⊢
              generalize h id = ob at hr ⊢
              cases ob with
              | ext e => cases e <;> exact hr
              | _ => cases hr
            | mapf ks' vs' => exact orE_right rfl hr
            | _ => cases hr
          · cases hc
            refine ⟨fun r hr => orE_left ?_, by simp [needI, A.get_of]⟩
            simp only [evIO, A.get_of, evPure_lean] at hr
            generalize opd τ x = vx at hr ⊢
            cases vx with
            | sc u => exact hr
            | _ => cases hr
        · cases hc
      case append =>
        simp only at hc ⊢
        split at hc
        · rename_i x y t t' hxs hts
          simp only [hxs, hts]
          split at hc
          · rename_i htt
            simp only [if_pos htt]
            cases het : elemT P t with
            | none => simp [het] at hc
            | some et =>
              simp only [het, Option.bind_some] at hc
              split at hc
              · rename_i i z hi hz
                split at hc
                · rename_i hcond
                  cases hc
                  refine ⟨fun r hr => orE_left ?_, by simp [needI, A.get_of]⟩
                  simp only [evIO, A.get_of] at hr
                  simp only [evAppend, het]
                  generalize h nid = ob at hr ⊢
                  cases ob with
                  | unborn =>
                    simp only [hi, hz, if_pos hcond, Option.bind_eq_some_iff] at hr ⊢
                    obtain ⟨ys, hys, hr⟩ := hr
                    refine ⟨ys, hys, ?_⟩
                    generalize opd τ x = vx at hr ⊢
                    cases vx with
                    | own id off len =>
                      simp only [] at hr ⊢
                      generalize h id = ob2 at hr ⊢
                      cases ob2 with
                      | live s es mu =>
                        simp only [] at hr ⊢
                        split at hr
                        · rename_i hcc
                          have h6 := (okE_all i.size ys).1 hcc.2.2.2.2
                          rw [if_pos ⟨hcc.1, hcc.2.1, hcc.2.2.1, hcc.2.2.2.1, by rw [hcc.1]; exact h6.1, h6.2⟩, hcc.1]
                          exact hr
                        · cases hr
                      | _ => cases hr
                    | mt =>
                      simp only [] at hr ⊢
                      split at hr
                      · rename_i hcc
                        have h6 := (okE_all i.size ys).1 hcc.2.2
                        rw [if_pos ⟨hcc.1, hcc.2.1, h6.1, h6.2⟩]
                        exact hr
                      · cases hr
                    | sc u =>
                      cases u with
                      | slice A n c =>
                        cases A with
                        | none =>
                          cases n with
                          | zero =>
                            cases c with
                            | zero =>
                              simp only [] at hr ⊢
                              split at hr
                              · rename_i hcc
                                have h6 := (okE_all i.size ys).1 hcc.2.2
                                rw [if_pos ⟨hcc.1, hcc.2.1, h6.1, h6.2⟩]
                                exact hr
                              · cases hr
                            | succ => cases hr
                          | succ => cases hr
                        | some => cases hr
                      | _ => cases hr
                    | _ => cases hr
                  | _ => cases hr
                · cases hc
              · cases hc
          · cases hc
        · cases hc
      case delete =>
        simp only at hc ⊢
        split at hc
        · rename_i x y t t' hxs hts
          simp only [hxs, hts]
          rw [Option.map_eq_some_iff] at hc
          obtain ⟨⟨kt, et, ks⟩, hq, rfl⟩ := hc
          refine ⟨fun r hr => ?_, by simp [needI, A.get_of]⟩
          simp only [evIO, A.get_of, evPure_lean] at hr
          cases hv : opd τ x with
          | mapr id =>
            rw [hv] at hr
            refine orE_right (evPure_mapr (x := x) (id := id) (by rw [ho]; simp only [Op.operands, Call.operands]; rw [← Array.toArray_toList (xs := c.args), hxs]; simp) hv) ?_
            simp only [mapDel, hq] at hr ⊢
            generalize h id = ob at hr ⊢
            generalize kvOf (aggT P kt) (opd τ y) = kv at hr ⊢
            cases ob with
            | ext e =>
              cases e with
              | map keys vs =>
                cases kv with
                | none => cases hr
                | some kv =>
                  simp only [delI, idxI, idxOf] at hr ⊢
                  generalize (if kv.cells.size = ks.length then keyFind (aggT P kt) ks kv.cells.toList keys 0 else none) = ix at hr ⊢
                  cases ix with
                  | none => cases hr
                  | some j => cases j <;> exact hr
              | iter => cases kv <;> cases hr
              | raw => cases kv <;> cases hr
              | miter => cases kv <;> cases hr
            | _ => cases kv <;> cases hr
          | _ => rw [hv] at hr; exact orE_left hr
        · cases hc
      all_goals
        simp only at hc ⊢
        cases hc
        exact ⟨fun r hr => orE_left (by simpa only [evIO, evPure_lean] using hr), rfl⟩
  case makeMap t r =>
    rw [Option.map_eq_some_iff] at hc
    obtain ⟨q, hq, rfl⟩ := hc
    refine ⟨fun r' hr => ?_, by simp [needI]⟩
    have e1 : (r.map A.of).map (A.get τ) = r.map (opd τ) := by cases r <;> simp [A.get_of]
    simp only [evIO, e1] at hr
    by_cases h0 : evPure P (opd τ) o = none
    · refine orE_right h0 ?_
      simp only [mapMake, hq]
      generalize r.map (opd τ) = vr at hr ⊢
      generalize h nid = ob at hr ⊢
      unfold mmkI at hr
      split at hr
      · exact hr
      · exact hr
      · cases hr
    · exfalso
      apply h0
      unfold evPure
      split
      · split
        · rfl
        · rw [show runPure P (execOp (fun x => ((opd τ x).conc).getD undef) o) = none from ?_]
          simp only [execOp, ho]
          generalize r.map _ = vr
          exact makeMap_impure t vr _
      · rfl
  case mapUpdate t m k v =>
    rw [Option.map_eq_some_iff] at hc
    obtain ⟨⟨kt, et, ks⟩, hq, rfl⟩ := hc
    refine ⟨fun r hr => ?_, by simp [needI, A.get_of]⟩
    simp only [evIO, A.get_of] at hr
    cases hv : opd τ m with
    | mapr id =>
      rw [hv] at hr
      refine orE_right (evPure_mapr (x := m) (id := id) (by rw [ho]; simp [Op.operands]) hv) ?_
      simp only [mapPut, hq] at hr ⊢
      generalize h id = ob at hr ⊢
      generalize kvOf (aggT P kt) (opd τ k) = kv at hr ⊢
      cases ob with
      | ext e =>
        cases e with
        | map keys vs =>
          cases kv with
          | none => cases hr
          | some kv =>
            simp only [putI, idxI, idxOf] at hr ⊢
            generalize (if kv.cells.size = ks.length then keyFind (aggT P kt) ks kv.cells.toList keys 0 else none) = ix at hr ⊢
            cases ix with
            | none => cases hr
            | some j => cases j <;> exact hr
        | iter => cases kv <;> cases hr
        | raw => cases kv <;> cases hr
        | miter => cases kv <;> cases hr
      | _ => cases kv <;> cases hr
    | _ => rw [hv] at hr; cases hr
  case lookup t m k b =>
    rw [Option.bind_eq_some_iff] at hc
    obtain ⟨⟨kt, et, ks⟩, hq, hc⟩ := hc
    rw [Option.map_eq_some_iff] at hc
    obtain ⟨z, hz, rfl⟩ := hc
    refine ⟨fun r hr => ?_, by simp [needI, A.get_of]⟩
    simp only [evIO, A.get_of, evPure_lean] at hr
    cases hv : opd τ m with
    | mapr id =>
      rw [hv] at hr
      refine orE_right (evPure_mapr (x := m) (id := id) (by rw [ho]; simp [Op.operands]) hv) ?_
      simp only [mapLook, hq, mapOf] at hr ⊢
      generalize h id = ob at hr ⊢
      generalize kvOf (aggT P kt) (opd τ k) = kv at hr ⊢
      cases ob with
      | ext e =>
        cases e with
        | map keys vs =>
          cases kv with
          | none => cases hr
          | some kv =>
            simp only [lookI, idxI, idxOf] at hr ⊢
            generalize (if kv.cells.size = ks.length then keyFind (aggT P kt) ks kv.cells.toList keys 0 else none) = ix at hr ⊢
            cases ix with
            | none => cases hr
            | some j => cases j with
              | none => simp only [hz]; exact hr
              | some j => exact hr
        | iter => cases kv <;> cases hr
        | raw => cases kv <;> cases hr
        | miter => cases kv <;> cases hr
      | _ => cases kv <;> cases hr
    | mapf keys vs =>
      rw [hv] at hr
      refine orE_right (evPure_mapf (x := m) (by rw [ho]; simp [Op.operands]) hv) ?_
      simp only [mapLook, hq, mapOf] at hr ⊢
      generalize kvOf (aggT P kt) (opd τ k) = kv at hr ⊢
      cases kv with
      | none => cases hr
      | some kv =>
        simp only [lookI, idxI, idxOf] at hr ⊢
        generalize (if kv.cells.size = ks.length then keyFind (aggT P kt) ks kv.cells.toList keys 0 else none) = ix at hr ⊢
        cases ix with
        | none => cases hr
        | some j => cases j with
          | none => simp only [hz]; exact hr
          | some j => exact hr
    | _ => rw [hv] at hr; exact orE_left hr
  all_goals
    cases hc
    exact ⟨fun r hr => by simpa only [evIO, evPure_lean] using hr, rfl⟩
end Go.Idl
