/-
  What the evaluator says of an operation holds in the model: copies, variables, addresses, loads, stores.
-/
import Derived.Test.YtnafhnnhhdmnfaaIdlD
import Derived.Laws.Cells
import Derived.Laws.CopyRow
import Derived.Laws.Entries
namespace Go.Idl
set_option linter.all false
open Go.RowKit

/-- WHAT A FUNCTION DOES, as its callers see it: from data to data; nothing that was there is changed. -/
def Contract (P : Program) (f : FuncId) (F : List V → Option V) : Prop :=
  ∀ (I : Imm) (w : World) (args : Array Value) (xs : List V) (r : V), xs.length = args.size →
    (∀ (j : Nat) (x : V) (u : Value), xs[j]? = some x → args[j]? = some u → Rep I w noPlaces x u) → (∀ g x, I g x → g < w.heap.size) → F xs = some r →
    Calls P f args w fun e w' => ∃ u, e = .returned u ∧ Below w.heap.size w w' ∧ Rep (fun g x => I g x ∨ (w.heap.size ≤ g ∧ g < w'.heap.size)) w' noPlaces r u

/-- An operation comes to the value and the objects that are said. -/
def Lands (C : Ctx) (P : Program) (o : Oper) (a : Act) (w : World) (τ : Nat → V) (H : Heap) (v : V) : Prop :=
  ∀ (K : Act → World → Prop) (Q : Exit → Act → World → Prop),
    (∀ u w' γ' I', Sim C γ' I' τ H a.tmps w' → Rep I' w' γ' v u → K (a.put o.dst u) w') → o.wp P a w K Q

variable {P : Program} {C : Ctx} {γ : Places} {I : Imm} {τ : Nat → V} {H : Heap} {w : World} {a : Act} {o : Oper} {v : V}

theorem lands_value {H' : Heap} {γ' : Places} {I' : Imm} {w' : World} {u : Value} (hrun : (execOp a.eval o).run P w = .ok (.value u) w')
    (hS : Sim C γ' I' τ H' a.tmps w') (hr : Rep I' w' γ' v u) : Lands C P o a w τ H' v := by
  intro K Q hK
  unfold Oper.wp
  rw [hrun]
  exact hK _ _ _ _ hS hr

theorem lands_skip {H' : Heap} {γ' : Places} {I' : Imm} {w' : World} (hrun : (execOp a.eval o).run P w = .ok .skip w')
    (hS : Sim C γ' I' τ H' a.tmps w') : Lands C P o a w τ H' .any := by
  intro K Q hK
  unfold Oper.wp
  rw [hrun]
  exact hK _ _ _ _ hS (.any _ _)

theorem run_sizeT {t : TypeId} {n : Nat} (h : sizeT P t = some n) (w : World) : (sizeOf t).run P w = .ok n w := by
  unfold sizeT at h
  cases hi : P.info? t with
  | none => simp [hi] at h
  | some i => simp [hi] at h; simp [sizeOf, typeInfo, hi, h]
theorem run_zeroT {t : TypeId} {z : Value} (h : zeroT P t = some z) (w : World) : (zeroValue t).run P w = .ok z w := by
  unfold zeroT at h
  cases hi : P.info? t with
  | none => simp [hi] at h
  | some i => simp [hi] at h; simp [zeroValue, typeInfo, hi, h]
theorem run_aggT {t : TypeId} {d : TypeDesc} (h : P.underlying t = some d) (w : World) : (isAgg t).run P w = .ok (aggT P t) w := by
  simp only [isAgg, Sem.run_bind, run_underlying h, Result.andThen_ok, aggT, h]
  cases d <;> rfl

theorem addr_add (g x n : Nat) : (⟨g, x, none⟩ : Addr).add n = ⟨g, x + n, none⟩ := by
  unfold Addr.add
  split <;> simp_all

/-- What a variable reads as, off its cells. -/
theorem run_readC {t : TypeId} {cells : List V} {off : Nat} (h : readC P t cells off = some v) {g x : Nat} {f : Nat → Value}
    (hc : ∀ j, j < cells.length → w.cell? ⟨g, x + j, none⟩ = some (f j)) (hr : ∀ (j : Nat) (c : V), cells[j]? = some c → Rep I w γ c (f j)) :
    ∃ u, (loadVar t ⟨g, x + off, none⟩).run P w = .ok u w ∧ Rep I w γ v u := by
  unfold readC at h
  split at h
  · rename_i hagg
    cases hs : sizeT P t with
    | none => simp [hs] at h
    | some n =>
      simp only [hs, Option.bind_some] at h
      split at h
      · rename_i hle
        cases hu : P.underlying t with
        | none => simp [aggT, hu] at hagg
        | some d =>
          simp at h
          subst h
          have hl := run_loadCells (P := P) w ⟨g, x + off, none⟩ n (fun j => f (off + j)) (fun j hj => by
            rw [addr_add, Nat.add_assoc]
            exact hc _ (by omega))
          refine ⟨.agg ((List.range n).map fun j => f (off + j)).toArray, ?_, ?_⟩
          · simp [loadVar, run_aggT hu, hagg, run_sizeT hs, hl]
          · refine .agg _ _ _ (by simp; omega) fun j c u hj hu => ?_
            rw [List.getElem?_take] at hj
            split at hj
            · rename_i hjn
              rw [List.getElem?_drop] at hj
              have he : f (off + j) = u := by simpa [hjn] using hu
              subst he
              exact hr _ _ hj
            · cases hj
      · simp at h
  · rename_i hagg
    split at h
    · rename_i d hu
      have hlt : off < cells.length := (List.getElem?_eq_some_iff.1 h).1
      refine ⟨f off, ?_, hr _ _ h⟩
      simp [loadVar, run_aggT hu, hagg, hc off hlt]
    · simp at h


theorem only_live {ids : List Nat} {x : Nat} {sz : Nat} {es : List V} {mu : Bool} (h : only ids H x = .live sz es mu) : H x = .live sz es mu := by
  unfold only at h
  split at h
  · exact h
  · cases h
theorem only_unborn {ids : List Nat} {x : Nat} (h : only ids H x = .unborn) : H x = .unborn := by
  unfold only at h
  split at h
  · exact h
  · cases h

theorem putH_one (H : Heap) (id : Nat) (x : Obj) : putH H [(id, x)] = updH H id x := rfl

section
variable (hS : Sim C γ I τ H a.tmps w)
include hS

theorem rep_opd (x : Operand) : Rep I w γ (opd τ x) (a.eval x) := hS.opd a.defers x

theorem lands_move {x : Operand} (ho : o.op = .move x ∨ o.op = .assign x) : Lands C P o a w τ H (opd τ x) := by
  refine lands_value (u := a.eval x) (w' := w) ?_ hS (rep_opd hS x)
  rcases ho with ho | ho <;> simp [execOp, ho]

theorem lands_pick {c x y : Operand} (ho : o.op = .pick c x y) {t : Bool} (hc : opd τ c = .sc (.bool t)) : Lands C P o a w τ H (if t then opd τ x else opd τ y) := by
  have h1 := rep_opd hS c
  rw [hc] at h1
  have h2 := h1.sc_eq
  refine lands_value (u := if t then a.eval x else a.eval y) (w' := w) ?_ hS ?_
  · simp [execOp, ho, h2, asBool]
  · cases t
    · exact rep_opd hS y
    · exact rep_opd hS x

theorem lands_pure {δ : List (Nat × Obj)} (h : evPure P (opd τ) o = some (v, δ)) : δ = [] ∧ Lands C P o a w τ H v := by
  unfold evPure at h
  split at h
  · rename_i hall
    split at h
    · cases h
    · rename_i hsel
      split at h
      · rename_i u hrun
        simp at h
        obtain ⟨rfl, rfl⟩ := h
        refine ⟨rfl, lands_value (u := u) (w' := w) ?_ hS (Rep.ofV u)⟩
        have hcong := execOp_congr (ρ := a.eval) (ρ' := fun x => ((opd τ x).conc).getD undef) o hsel (fun x hx => by
          have h1 := (Array.all_eq_true_iff_forall_mem.1 hall) x hx
          obtain ⟨c, hc⟩ := Option.isSome_iff_exists.1 h1
          simp only [hc, Option.getD_some]
          exact (rep_opd hS x).conc hc)
        rw [hcong]
        exact runPure_run hrun w
      · cases h
  · cases h

omit hS in
theorem solid_cells {x : V} {u : Value} (h : Rep I w γ x u) (hs : x.solid = true) :
    u.cells.size = x.cells.length ∧ (∀ c ∈ u.cells.toList, c.oneCell' = true) ∧ ∀ (j : Nat) (c : V), x.cells[j]? = some c → ∃ y, u.cells[j]? = some y ∧ Rep I w γ c y := by
  have one : ∀ {c : V} {y : Value}, Rep I w γ c y → c.cellOk = true → y.oneCell' = true := by
    intro c y hr hk
    cases hr <;> first | exact hk | (simp [V.cellOk] at hk; done) | rfl
  have single : x.cellOk = true → u.cells.size = 1 ∧ (∀ c ∈ u.cells.toList, c.oneCell' = true) ∧ u.cells = #[u] := by
    intro hk
    have ho := one h hk
    have hu : u.cells = #[u] := by cases u <;> first | rfl | (simp [Value.oneCell'] at ho; done)
    exact ⟨by rw [hu]; rfl, by rw [hu]; simpa using ho, hu⟩
  cases x with
  | agg cs =>
    cases h with
    | agg _ _ vs hl hh =>
      simp only [V.solid, List.all_eq_true] at hs
      refine ⟨hl.symm, fun c hc => ?_, fun j c hj => ?_⟩
      · have hc' : c ∈ vs.toList := hc
        obtain ⟨j, hj⟩ := List.getElem?_of_mem hc'
        have hjl : j < cs.length := by
          have := (List.getElem?_eq_some_iff.1 hj).1
          simp at this
          omega
        have h1 : cs[j]? = some cs[j] := List.getElem?_eq_getElem hjl
        exact one (hh j cs[j] c h1 (by simpa using hj)) (hs _ (List.getElem_mem hjl))
      · have hjl : j < vs.size := by
          have := (List.getElem?_eq_some_iff.1 hj).1
          simp [V.cells] at this
          omega
        exact ⟨vs[j], by simp [Value.cells, hjl], hh j c vs[j] hj (by simp [hjl])⟩
  | _ =>
    have hk := hs
    simp only [V.solid] at hk
    obtain ⟨h1, h2, h3⟩ := single hk
    refine ⟨by simpa [V.cells] using h1, h2, fun j c hj => ?_⟩
    cases j with
    | zero => simp [V.cells] at hj; subst hj; exact ⟨u, by rw [h3]; rfl, h⟩
    | succ j => simp [V.cells] at hj

omit hS in
theorem ofV_cells (z : Value) (j : Nat) (c : V) (hz : z.cells.size = (V.ofV z).cells.length) (hj : (V.ofV z).cells[j]? = some c) : ∃ y, z.cells[j]? = some y ∧ Rep I w γ c y := by
  cases z <;> simp only [V.ofV, V.cells] at hj ⊢
  case agg cs =>
    simp at hj
    obtain ⟨y, hy, rfl⟩ := hj
    exact ⟨y, by simpa [Value.cells] using hy, .sc _ _⟩
  case tuple vs =>
    cases j with
    | zero => simp at hj; subst hj; exact ⟨_, rfl, Rep.ofV (.tuple vs)⟩
    | succ j => simp at hj
  all_goals
    cases j with
    | zero => simp at hj; subst hj; exact ⟨_, rfl, .sc _ _⟩
    | succ j => simp at hj

omit hS in
theorem ofV_len (z : Value) : (V.ofV z).cells.length = z.cells.size := by
  cases z <;> simp [V.ofV, V.cells, Value.cells]

theorem lands_alloc {t : TypeId} (ho : o.op = .alloc t) {nid : Nat} {ids : List Nat} {δ : List (Nat × Obj)} (h : evAlloc P nid (only ids H) t = some (v, δ)) :
    Lands C P o a w τ (putH H δ) v := by
  unfold evAlloc at h
  split at h
  · rename_i z h0 hz
    simp at h
    obtain ⟨rfl, rfl⟩ := h
    have hb := hS.born (nid := nid) (sz := z.cells.size) (es := [V.ofV z]) (c := z.cells) (t := t) (only_unborn h0) (by simp [ofV_len]) (fun i j e x he hx => by
      cases i with
      | zero => simp at he; subst he; simpa using ofV_cells z j x (ofV_len z).symm hx
      | succ i => simp at he)
    refine lands_value (u := .pointer (some ⟨w.heap.size, 0, none⟩)) ?_ hb.1 ?_
    · simp [execOp, ho, Instr.alloc, run_zeroT hz, newVar, newRow]
    · have := Rep.ref (I := I) (w := w.alloc (.cells z.cells t)) (updP γ nid ⟨w.heap.size, 0, z.cells.size⟩) nid 0 0 ⟨w.heap.size, 0, z.cells.size⟩ (by simp [updP])
      simpa using this
  · cases h

theorem lands_box {t : TypeId} {x : Operand} (ho : o.op = .box t x) {nid : Nat} {ids : List Nat} {δ : List (Nat × Obj)} (h : evBox nid (only ids H) (opd τ x) = some (v, δ)) :
    Lands C P o a w τ (putH H δ) v := by
  unfold evBox at h
  split at h
  · rename_i h0
    split at h
    · rename_i hs
      simp at h
      obtain ⟨rfl, rfl⟩ := h
      obtain ⟨h1, _, h3⟩ := solid_cells (rep_opd hS x) hs
      have hb := hS.born (nid := nid) (sz := (opd τ x).cells.length) (es := [opd τ x]) (c := (a.eval x).cells) (t := t) (only_unborn h0) (by simp) (fun i j e y he hx => by
        cases i with
        | zero => simp at he; subst he; simpa using h3 j y hx
        | succ i => simp at he)
      refine lands_value (u := .pointer (some ⟨w.heap.size, 0, none⟩)) ?_ hb.1 ?_
      · simp [execOp, ho, Instr.box, newVar, newRow]
      · have := Rep.ref (I := I) (w := w.alloc (.cells (a.eval x).cells t)) (updP γ nid ⟨w.heap.size, 0, (opd τ x).cells.length⟩) nid 0 0 ⟨w.heap.size, 0, (opd τ x).cells.length⟩ (by simp [updP])
        simpa using this
    · cases h
  · cases h

end
end Go.Idl
