/-
  THE EVALUATOR IS RIGHT, operation by operation; regions, in the order of the text and in whatever order.
-/
import Derived.Test.YtnafhnnhhdmnfaaIdlKA
namespace Go.Idl
set_option linter.all false
open Go.RowKit

variable {P : Program} {C : Ctx} {γ : Places} {I : Imm} {τ : Nat → V} {H : Heap} {w : World} {a : Act} {o : Oper} {v : V} {tm : Array Value}

theorem equalIn_bool {t : TypeId} (hut : P.underlying t = some .bool) (d : Nat) (a b : Bool) : (Op.equalIn (d + 1) t (.bool a) (.bool b)).run P w = .ok (a == b) w := by
  simp [Op.equalIn, run_underlying hut]
theorem equal_bool {t : TypeId} (hut : P.underlying t = some .bool) (a b : Bool) : (Op.equal t (.bool a) (.bool b)).run P w = .ok (a == b) w :=
  equalIn_bool hut 9999 a b

theorem ev_sound {Φ : Specs} (hΦ : Met P Φ) (hS : Sim C γ I τ H a.tmps w) {nid : Nat} {δ : List (Nat × Obj)} (h : ev P Φ nid (opd τ) H o = some (v, δ)) : Lands C P o a w τ (putH H δ) v := by
  unfold ev evOp at h
  cases h0 : evOp0 P Φ nid (opd τ) (only (need nid (opd τ) o) H) o with
  | none => rw [h0] at h; exact lands_map hS (mapEv_of_only h)
  | some r =>
  rw [h0] at h
  cases h
  have h := h0
  clear h0
  unfold evOp0 at h
  have pr : evPure P (opd τ) o = some (v, δ) → Lands C P o a w τ (putH H δ) v := fun h => by
    obtain ⟨rfl, h2⟩ := lands_pure hS h
    exact h2
  split at h
  case h_1 x ho => cases h; exact lands_move hS (.inl ho)
  case h_2 x ho => cases h; exact lands_move hS (.inr ho)
  case h_3 c x y ho =>
    split at h
    · rename_i t hc
      cases h
      exact lands_pick hS ho hc
    · cases h
  case h_4 op t x y t' ho =>
    unfold evBin at h
    have hx := rep_opd hS x
    have hy := rep_opd hS y
    split at h
    · rename_i u hu
      cases h
      refine lands_value (u := u) (w' := w) ?_ hS (.sc _ _)
      unfold fastBin at hu
      split at hu
      · rename_i k m k' m' h1 h2
        rw [h1] at hx
        rw [h2] at hy
        have e1 := hx.sc_eq
        have e2 := hy.sc_eq
        split at hu
        · rename_i hk
          subst hk
          cases op <;> simp only [binI] at hu <;> first
            | (cases hu; simp [execOp, ho, e1, e2, eqGuard, binOp, Op.intArith, Op.intCmp]; done)
            | (split at hu
               · cases hu
               · rename_i hb; cases hu; simp [execOp, ho, e1, e2, eqGuard, binOp, Op.intDiv, hb])
            | (simp only [shI] at hu
               split at hu
               · cases hu
               · rename_i hb; cases hu; simp [execOp, ho, e1, e2, eqGuard, binOp, Op.shift, hb])
            | cases hu
        · cases op <;> simp only [shI] at hu <;> first
            | (cases hu; done)
            | (split at hu
               · cases hu
               · rename_i hb; cases hu; simp [execOp, ho, e1, e2, eqGuard, binOp, Op.shift, hb])
      · rename_i m m' h1 h2
        rw [h1] at hx
        rw [h2] at hy
        have e1 := hx.sc_eq
        have e2 := hy.sc_eq
        cases op <;> simp only [binS] at hu <;> first
          | (cases hu; simp [execOp, ho, e1, e2, eqGuard, binOp, Op.stringOp]; done)
          | (cases hu; simp [execOp, ho, e1, e2, eqGuard, binOp, Op.stringOp, ltS]; done)
          | (split at hu
             · cases hu
             · rename_i hb; cases hu; simp only [execOp, ho, e1, e2, eqGuard, binOp, Op.stringOp, if_neg hb, Sem.run_bind, Sem.run_pure, Result.andThen_ok]; try rfl)
          | cases hu
      · rename_i m m' h1 h2
        rw [h1] at hx
        rw [h2] at hy
        have e1 := hx.sc_eq
        have e2 := hy.sc_eq
        split at hu
        · rename_i hb
          have hut : P.underlying t = some .bool := by
            unfold boolT at hb
            split at hb
            · assumption
            · cases hb
          have heq : ∀ a b : Bool, (Op.equal t (.bool a) (.bool b)).run P w = .ok (a == b) w := equal_bool hut
          cases op <;> simp only [binB] at hu <;> first
            | (cases hu; simp [execOp, ho, e1, e2, eqGuard, binOp, heq]; done)
            | (cases hu; simp [execOp, ho, e1, e2, eqGuard, binOp, heq, bne]; done)
            | cases hu
        · cases hu
      · cases hu
    · exact pr h
  case h_5 op t x ho =>
    unfold evUn at h
    have hx := rep_opd hS x
    split at h
    · rename_i b h1
      rw [h1] at hx
      have e1 := hx.sc_eq
      cases h
      refine lands_value (w' := w) ?_ hS (.sc _ _)
      simp [execOp, ho, e1, Op.unary]
    · rename_i k m h1
      rw [h1] at hx
      have e1 := hx.sc_eq
      cases h
      refine lands_value (w' := w) ?_ hS (.sc _ _)
      simp [execOp, ho, e1, Op.unary, Op.intArith]
    · exact pr h
  case h_6 t ho => exact lands_alloc hS ho h
  case h_7 t x ho => exact lands_box hS ho h
  case h_8 t x ho =>
    simp only [Option.map_eq_some_iff, Prod.mk.injEq] at h
    obtain ⟨v', h1, rfl, rfl⟩ := h
    exact lands_load hS ho h1
  case h_9 t x y ho =>
    simp only [Option.map_eq_some_iff, Prod.mk.injEq] at h
    obtain ⟨d, h1, rfl, rfl⟩ := h
    exact lands_store hS ho h1
  case h_10 s x f ho =>
    simp only [Option.map_eq_some_iff, Prod.mk.injEq] at h
    obtain ⟨v', h1, rfl, rfl⟩ := h
    exact lands_fieldAddr hS ho h1
  case h_11 t x i ho =>
    simp only [Option.map_eq_some_iff, Prod.mk.injEq] at h
    obtain ⟨v', h1, rfl, rfl⟩ := h
    exact lands_indexAddr hS ho h1
  case h_12 s x f ho =>
    split at h
    · rename_i cs hx
      cases hf : fieldT P s f with
      | none => simp [hf] at h
      | some fd =>
        simp only [hf, Option.bind_some, Option.map_eq_some_iff, Prod.mk.injEq] at h
        obtain ⟨v', h1, rfl, rfl⟩ := h
        exact lands_field hS ho hx hf h1
    · cases h
  case h_13 x i ho =>
    split at h
    · rename_i vs hx
      simp only [Option.map_eq_some_iff, Prod.mk.injEq] at h
      obtain ⟨v', h1, rfl, rfl⟩ := h
      exact lands_extract hS ho hx h1
    · cases h
  case h_14 t parts ho =>
    simp only [Option.map_eq_some_iff, Prod.mk.injEq] at h
    obtain ⟨v', h1, rfl, rfl⟩ := h
    exact lands_build hS ho h1
  case h_15 t len parts ho => exact lands_bsl hS ho (by simp [need, need0, mapNeed, ho]) h
  case h_16 t l c ho => exact lands_makeSlice hS ho h
  case h_17 t x lo hi mx ho =>
    split at h
    · exact pr h
    · refine lands_slice hS ho (ids := need nid (opd τ) o) ?_ h
      intro id hid
      simp [need, need0, mapNeed, ho]
      exact hid
  case h_18 fn xs ys ho => cases h; exact lands_makeFunc hS ho
  case h_19 x ho =>
    split at h
    · rename_i id idx off hx
      cases h
      rw [← hx]
      exact lands_nilCheck hS ho (.inl ⟨_, _, _, hx⟩)
    · rename_i e off hx
      cases h
      rw [← hx]
      exact lands_nilCheck hS ho (.inr ⟨_, _, hx⟩)
    · exact pr h
  case h_20 t x ho =>
    split at h
    · rename_i s hx
      split at h
      · rename_i ht
        split at h
        · rename_i h0
          cases h
          exact lands_range hS ho ht hx (only_unborn h0)
        · cases h
      · cases h
    · cases h
  case h_21 it str ho =>
    split at h
    · rename_i id hx
      split at h
      · rename_i s pos hl0
        have hl : H id = .ext (.iter s pos) := by
          unfold only at hl0
          split at hl0
          · exact hl0
          · cases hl0
        split at h
        · rename_i hstr
          subst hstr
          obtain ⟨h1, h2⟩ := lands_next (P := P) (o := o) hS ho hx hl
          split at h
          · rename_i hlt; cases h; exact h1 hlt
          · rename_i hge; cases h; exact h2 hge
        · cases h
      · cases h
    · cases h
  case h_22 c ho =>
    split at h
    · rename_i hc
      split at h
      · rename_i x t hargs hts
        split at h
        · exact pr h
        · split at h
          · rename_i e ht
            obtain ⟨n, h1, he⟩ := Option.map_eq_some_iff.1 h
            cases he
            exact lands_len hS ho hc hargs hts ht h1
          · cases h
      · cases h
    · rename_i hc
      split at h
      · rename_i s x t t' hargs hts
        split at h
        · rename_i htt
          exact lands_append hS ho hc hargs hts htt h
        · cases h
      · cases h
    · exact pr h
    · rename_i f hc
      refine lands_call hS hΦ ho hc ?_
      simpa only [need, need0, mapNeed, ho, hc, List.nil_append] using h
    · cases h
  case h_23 => exact pr h

end Go.Idl
