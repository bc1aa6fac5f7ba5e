/-
  What the evaluator says of an operation holds in the model: slice expressions.
-/
import Derived.Test.YtnafhnnhhdmnfaaIdlH
namespace Go.Idl
set_option linter.all false
open Go.RowKit

variable {P : Program} {C : Ctx} {γ : Places} {I : Imm} {τ : Nat → V} {H : Heap} {w : World} {a : Act} {o : Oper} {v : V}

theorem elemT_und {t et : TypeId} (h : elemT P t = some et) : P.underlying t = some (.slice et) := by
  unfold elemT at h
  split at h
  · rename_i e he; cases h; exact he
  · cases h

/-- A bound that is given: the value of the model is that number. -/
def BoundIs (x : Option Value) (n : Nat) : Prop := ∃ k i, x = some (.int k i) ∧ 0 ≤ i ∧ i.toNat = n

theorem bound_some {x : Operand} {d n : Nat} (hS : Sim C γ I τ H a.tmps w) (h : bound d (some (opd τ x)) = some n) : BoundIs (some (a.eval x)) n := by
  have hr := rep_opd hS x
  generalize opd τ x = y at h hr
  cases y with
  | sc u =>
    have := hr.sc_eq
    cases u <;> simp [bound] at h
    exact ⟨_, _, by rw [this], h.1, h.2⟩
  | _ => simp [bound] at h

theorem run_sliceBound {x : Value} {n y : Nat} {code : BoundsCode} (h : BoundIs (some x) n) (hle : n ≤ y) : (Instr.sliceBound x y code).run P w = .ok n w := by
  obtain ⟨k, i, he, h0, rfl⟩ := h
  cases he
  have : i ≤ (y : Int) := by omega
  simp [Instr.sliceBound, asIntOf, h0, this]

/-- The model's slice expression on a slice. -/
theorem run_sliceAt {t et : TypeId} {sz : Nat} (ht : P.underlying t = some (.slice et)) (hsz : sizeT P et = some sz) {A : Option Addr} {n cap l r : Nat} {lo hi : Option Value}
    (hlo : lo = none ∧ l = 0 ∨ BoundIs lo l) (hhi : hi = none ∧ r = n ∨ BoundIs hi r) (hlr : l ≤ r) (hrn : r ≤ n) (hnc : n ≤ cap) :
    (Instr.sliceAt t (.slice A n cap) lo hi none).run P w = .ok (.slice (if cap = l then A else A.map (·.add (l * sz))) (r - l) (cap - l)) w := by
  have hb : (Instr.sliceBounds true n cap lo hi none).run P w = .ok (l, r, cap) w := by
    unfold Instr.sliceBounds
    rcases hhi with ⟨rfl, rfl⟩ | hh
    · rcases hlo with ⟨rfl, rfl⟩ | hl
      · simp
      · obtain ⟨k, i, rfl, h0, hi⟩ := hl
        have := run_sliceBound (P := P) (w := w) (y := r) (code := .sliceB) ⟨k, i, rfl, h0, hi⟩ hlr
        simp [this]
    · obtain ⟨k, i, rfl, h0, hi⟩ := hh
      have h1 := run_sliceBound (P := P) (w := w) (y := cap) (code := .sliceAcap) ⟨k, i, rfl, h0, hi⟩ (by omega)
      rcases hlo with ⟨rfl, rfl⟩ | hl
      · simp [h1]
      · obtain ⟨k', i', rfl, h0', hi'⟩ := hl
        have := run_sliceBound (P := P) (w := w) (y := r) (code := .sliceB) ⟨k', i', rfl, h0', hi'⟩ hlr
        simp [h1, this]
  simp [Instr.sliceAt, Instr.slice, run_underlying ht, hb, run_sizeT hsz]

theorem run_sliceAt3 {t et : TypeId} {sz : Nat} (ht : P.underlying t = some (.slice et)) (hsz : sizeT P et = some sz) {A : Option Addr} {n cap l r m : Nat} {lo hi : Option Value} {mx : Value}
    (hlo : lo = none ∧ l = 0 ∨ BoundIs lo l) (hhi : BoundIs hi r) (hmx : BoundIs (some mx) m) (hlr : l ≤ r) (hrm : r ≤ m) (hmn : m ≤ n) (hnc : n ≤ cap) :
    (Instr.sliceAt t (.slice A n cap) lo hi (some mx)).run P w = .ok (.slice (if m = l then A else A.map (·.add (l * sz))) (r - l) (m - l)) w := by
  have hb : (Instr.sliceBounds true n cap lo hi (some mx)).run P w = .ok (l, r, m) w := by
    unfold Instr.sliceBounds
    have h0 := run_sliceBound (P := P) (w := w) (y := cap) (code := .slice3Acap) hmx (by omega)
    obtain ⟨k, i, rfl, hi0, hi⟩ := hhi
    have h1 := run_sliceBound (P := P) (w := w) (y := m) (code := .slice3B) ⟨k, i, rfl, hi0, hi⟩ hrm
    rcases hlo with ⟨rfl, rfl⟩ | hl
    · simp [h0, h1]
    · obtain ⟨k', i', rfl, h0', hi'⟩ := hl
      have := run_sliceBound (P := P) (w := w) (y := r) (code := .slice3C) ⟨k', i', rfl, h0', hi'⟩ hlr
      simp [h0, h1, this]
  simp [Instr.sliceAt, Instr.slice, run_underlying ht, hb, run_sizeT hsz]

/-- The part of a slice with contents. -/
theorem part_rep {sz : Nat} {es : List V} {A : Option Addr} {n cap l r m : Nat} (hr : Rep I w γ (.slice sz es) (.slice A n cap)) (hlr : l ≤ r) (hrn : r ≤ n) (hrm : r ≤ m) :
    Rep I w γ (.slice sz ((es.take r).drop l)) (.slice (if m = l then A else A.map (·.add (l * sz))) (r - l) (m - l)) := by
  cases hr with
  | nilslice =>
    have h0 : r - l = 0 := by omega
    simp only [List.take_nil, List.drop_nil, h0]
    exact .nilslice _ _ _ _
  | slice _ _ _ g b _ f hcap hsz hc hh =>
    by_cases he : r = l
    · subst he
      have e : (es.take r).drop r = [] := by simp
      rw [e, Nat.sub_self]
      exact .nilslice _ _ _ _
    · have hlen : ((es.take r).drop l).length = r - l := by simp; omega
      rw [if_neg (by omega), Option.map_some, addr_add, ← hlen]
      refine .slice _ _ _ _ _ _ (fun i j => f (l + i) j) (by omega) (fun e he => hsz e (List.mem_of_mem_take (List.mem_of_mem_drop he))) (fun i j hi hj => ?_) (fun i j e c hec hcc => ?_)
      · have := hc (l + i) j (by omega) hj
        rw [show b + l * sz + i * sz + j = b + (l + i) * sz + j from by rw [Nat.add_mul]; omega]
        exact this
      · rw [List.getElem?_drop, List.getElem?_take] at hec
        split at hec
        · exact hh _ _ _ _ hec hcc
        · cases hec

theorem cap_rep {x : V} {A : Option Addr} {n cap : Nat} (hr : Rep I w γ x (.slice A n cap)) (hx : ∀ u, x ≠ .sc u) (ha : x ≠ .any) : n ≤ cap := by
  cases hr with
  | any => exact absurd rfl ha
  | sc => exact absurd rfl (hx _)
  | nilslice => omega
  | slice => assumption
  | own => assumption
  | own0 => omega
  | mt => omega

section
variable (hS : Sim C γ I τ H a.tmps w)
include hS

theorem lands_slice {t : TypeId} {x : Operand} {lo hi mx : Option Operand} (ho : o.op = .slice t x lo hi mx) {ids : List Nat} {δ : List (Nat × Obj)}
    (hids : ∀ id ∈ (opd τ x).ids, id ∈ ids) (h : evSlice P (only ids H) t (opd τ x) (lo.map (opd τ)) (hi.map (opd τ)) (mx.map (opd τ)) = some (v, δ)) : Lands C P o a w τ (putH H δ) v := by
  unfold evSlice evSliceI at h
  cases het : elemT P t with
  | none => simp [het] at h
  | some et =>
  cases hsz : sizeT P et with
  | none => simp [het, hsz] at h
  | some sz =>
  cases hlen : (opd τ x).len with
  | none => simp [het, hlen] at h
  | some n =>
  cases hl : bound 0 (lo.map (opd τ)) with
  | none => simp [het, hlen, hl] at h
  | some l =>
  cases hr : bound n (hi.map (opd τ)) with
  | none => simp [het, hlen, hl, hr] at h
  | some r =>
  cases hm : bound r (mx.map (opd τ)) with
  | none => simp [het, hlen, hl, hr, hm] at h
  | some m =>
  simp only [het, hsz, hlen, hl, hr, hm, Option.bind_some] at h
  split at h
  · rename_i hc
    obtain ⟨hlr, hrm, hmn⟩ := hc
    have ht := elemT_und het
    obtain ⟨A, cap, hu⟩ := len_rep (rep_opd hS x) hlen
    have hx := rep_opd hS x
    rw [hu] at hx
    have hlo : lo.map a.eval = none ∧ l = 0 ∨ BoundIs (lo.map a.eval) l := by
      cases lo with
      | none => simp [bound] at hl; exact .inl ⟨rfl, hl.symm⟩
      | some y => exact .inr (bound_some hS hl)
    have hhi : hi.map a.eval = none ∧ r = n ∨ BoundIs (hi.map a.eval) r := by
      cases hi with
      | none => simp [bound] at hr; exact .inl ⟨rfl, hr.symm⟩
      | some y => exact .inr (bound_some hS hr)
    cases mx with
    | none =>
      have hmr : m = r := by simpa [bound] using hm.symm
      subst hmr
      simp only [Option.map_none] at h
      have fin : n ≤ cap → ∀ {y : V}, Rep I w γ y (.slice (if cap = l then A else A.map (·.add (l * sz))) (m - l) (cap - l)) → Lands C P o a w τ H y := by
        intro hnc y hy
        refine lands_value (w' := w) ?_ hS hy
        have := run_sliceAt (P := P) (w := w) ht hsz (A := A) hlo hhi hlr hmn hnc
        simp [execOp, ho, hu, this]
      split at h
      · rename_i s es hv
        split at h
        · rename_i hs
          subst hs
          simp only [Option.some.injEq, Prod.mk.injEq] at h
          obtain ⟨rfl, rfl⟩ := h
          rw [hv] at hx
          have hnc := cap_rep hx (by simp) (by simp)
          exact fin hnc (part_rep hx hlr hmn (by omega))
        · cases h
      · rename_i id off ln hv
        split at h
        · rename_i s es mu hl0
          split at h
          · rename_i hs
            subst hs
            simp only [Option.some.injEq, Prod.mk.injEq] at h
            obtain ⟨rfl, rfl⟩ := h
            rw [hv] at hx
            have hnc := cap_rep hx (by simp) (by simp)
            refine fin hnc ?_
            rcases hS.obj id s es mu (only_live hl0) with ⟨_, hg⟩ | ⟨p, c, t', ho'⟩
            · cases hx with
              | own _ _ _ _ _ p _ _ hp => rw [hg] at hp; cases hp
              | own0 =>
                have h0 : m - l = 0 := by omega
                have h1 : 0 - l = 0 := by omega
                rw [h0, h1]
                exact .own0 _ _ _ _
            · cases hx with
              | own0 =>
                have h0 : m - l = 0 := by omega
                have h1 : 0 - l = 0 := by omega
                rw [h0, h1]
                exact .own0 _ _ _ _
              | own _ _ _ _ _ q cc tt hp hcap hb hroom =>
                rw [ho'.place] at hp
                cases hp
                by_cases hcl : cap = l
                · have h0 : m - l = 0 := by omega
                  have h1 : cap - l = 0 := by omega
                  rw [h0, h1]
                  exact .own0 _ _ _ _
                · rw [if_neg hcl, Option.map_some, addr_add]
                  have e : p.off + off * p.sz + l * s = p.off + (off + l) * p.sz := by rw [ho'.size, Nat.add_mul]; omega
                  rw [e]
                  exact .own _ _ _ _ _ p cc tt ho'.place (by omega) hb (by
                    rw [show off + l + (cap - l) = off + cap from by omega]
                    exact hroom)
          · cases h
        · cases h
      · rename_i hv
        simp only [Option.some.injEq, Prod.mk.injEq] at h
        obtain ⟨rfl, rfl⟩ := h
        rw [hv] at hx
        have hnc := cap_rep hx (by simp) (by simp)
        refine fin hnc ?_
        cases hx
        have h0 : m - l = 0 := by omega
        have h1 : 0 - l = 0 := by omega
        rw [h0, h1]
        exact .mt _ _
      · rename_i hv
        simp only [Option.some.injEq, Prod.mk.injEq] at h
        obtain ⟨rfl, rfl⟩ := h
        rw [hv] at hx
        have := hx.sc_eq
        cases this
        refine fin (Nat.le_refl _) ?_
        have h0 : m - l = 0 := by omega
        have h1 : 0 - l = 0 := by omega
        rw [h0, h1]
        exact .mt _ _
      · cases h
    | some mx =>
      simp only [Option.map_some] at h
      have hbm := bound_some hS hm
      have hhi' : BoundIs (hi.map a.eval) r ∨ hi = none := by
        cases hi with
        | none => exact .inr rfl
        | some y => exact .inl (bound_some hS hr)
      split at h
      · cases h
      · rename_i hhn
        have hhi2 : BoundIs (hi.map a.eval) r := by
          rcases hhi' with h1 | h1
          · exact h1
          · subst h1; simp at hhn
        have run3 : n ≤ cap → (execOp a.eval o).run P w = .ok (.value (.slice (if m = l then A else A.map (·.add (l * sz))) (r - l) (m - l))) w := by
          intro hnc
          have := run_sliceAt3 (P := P) (w := w) ht hsz (A := A) hlo hhi2 hbm hlr hrm hmn hnc
          simp [execOp, ho, hu, this]
        have nosc : (∀ u, opd τ x ≠ .sc u) → n ≤ cap := fun hh => cap_rep hx hh (fun e => by rw [e] at hlen; simp [V.len] at hlen)
        split at h
        · rename_i hns
          split at h
          · rename_i hlm
            simp only [Option.some.injEq, Prod.mk.injEq] at h
            obtain ⟨rfl, rfl⟩ := h
            refine lands_value (w' := w) (run3 (nosc ?_)) hS ?_
            · intro u hu'
              rw [hu'] at hns
              cases hns
            · have h0 : r - l = 0 := by omega
              have h1 : m - l = 0 := by omega
              rw [h0, h1]
              exact .mt _ _
          · split at h
            · rename_i s es hv
              split at h
              · rename_i hs
                subst hs
                simp only [Option.some.injEq, Prod.mk.injEq] at h
                obtain ⟨rfl, rfl⟩ := h
                refine lands_value (w' := w) (run3 (nosc (by simp [hv]))) hS ?_
                rw [hv] at hx
                exact part_rep hx hlr (by omega) hrm
              · cases h
            · rename_i id off ln hv
              split at h
              · rename_i s es mu hl0
                split at h
                · rename_i hcc
                  obtain ⟨rfl, hole, hall⟩ := hcc
                  simp only [Option.some.injEq, Prod.mk.injEq] at h
                  obtain ⟨rfl, rfl⟩ := h
                  rw [hv] at hx hlen
                  have hln : ln = n := by simpa [V.len] using hlen
                  subst hln
                  obtain ⟨I1, hI1, hS1, hfix⟩ := args_froze hS (h := fun y => if y = id then only ids H y else .dead) (ids := [id]) (fun y sz es mu hl => by
                      split at hl
                      · exact only_live hl
                      · cases hl) (fun y sz es mu hl => by
                      split at hl
                      · rename_i e; simp [e]
                      · cases hl)
                  have hfz : froze (only ids H) [id] = froze (fun y => if y = id then only ids H y else .dead) [id] := by
                    simp only [froze, List.filterMap_cons, List.filterMap_nil, if_true]
                  have hlive := hfix id s es mu (by simp [hl0]) hall
                  have hx1 : Rep I1 w γ (.own id off ln) (.slice A ln cap) := hx.mono (Pres.refl I w) hI1 fun _ _ h => h
                  have hfrozen := own_frozen hS1 hlive hole hx1
                  have hpart := part_rep (m := m) hfrozen hlr (by omega) hrm
                  rw [hfz]
                  refine lands_value (w' := w) (run3 (nosc (by simp [hv]))) hS1 ?_
                  have e : (es.drop (off + l)).take (r - l) = (((es.drop off).take ln).take r).drop l := by
                    rw [List.take_take, Nat.min_eq_left (by omega), List.drop_take, List.drop_drop]
                  rw [e]
                  exact hpart.mono (Pres.refl _ _) (fun _ _ h => h) (by simp [noPlaces])
                · cases h
              · cases h
            · cases h
        · cases h
  · cases h

end
end Go.Idl
