/-
  What the evaluator says of an operation holds in the model: loads and stores, addresses of fields and elements, parts.
-/
import Derived.Test.YtnafhnnhhdmnfaaIdlE
namespace Go.Idl
set_option linter.all false
open Go.RowKit

variable {P : Program} {C : Ctx} {γ : Places} {I : Imm} {τ : Nat → V} {H : Heap} {w : World} {a : Act} {o : Oper} {v : V}

theorem cell_blk {g x : Nat} {c : Array Value} {t : TypeId} (h : w.heap[g]? = some (.cells c t (0, 0))) : w.cell? ⟨g, x, none⟩ = c[x]? := by
  simp [World.cell?, h]

/-- The cells of one element of a living object. -/
theorem ObjAt.elem {id sz : Nat} {es : List V} {mu : Bool} {p : Place} {c : Array Value} {t : TypeId} (h : ObjAt γ I w id sz es mu p c t) {i : Nat} {e : V} (he : es[i]? = some e) :
    ∃ f : Nat → Value, (∀ j, j < e.cells.length → w.cell? ⟨p.blk, p.off + i * sz + j, none⟩ = some (f j)) ∧ ∀ (j : Nat) (x : V), e.cells[j]? = some x → Rep I w γ x (f j) := by
  refine ⟨fun j => (c[p.off + i * sz + j]?).getD undef, fun j hj => ?_, fun j x hx => ?_⟩
  · obtain ⟨u, hu, _⟩ := h.cell i j e e.cells[j] he (List.getElem?_eq_getElem hj)
    rw [cell_blk h.blk]; simp [hu]
  · obtain ⟨u, hu, hr⟩ := h.cell i j e x he hx
    simp only [hu, Option.getD_some]; exact hr

section
variable (hS : Sim C γ I τ H a.tmps w)
include hS

theorem lands_load {t : TypeId} {x : Operand} (ho : o.op = .load t x) {ids : List Nat} (h : evLoad P (only ids H) t (opd τ x) = some v) : Lands C P o a w τ H v := by
  have hx := rep_opd hS x
  have fin : ∀ {g y : Nat} {u : Value}, a.eval x = .pointer (some ⟨g, y, none⟩) → (loadVar t ⟨g, y, none⟩).run P w = .ok u w → Rep I w γ v u → Lands C P o a w τ H v := by
    intro g y u he hl hr
    refine lands_value (u := u) (w' := w) ?_ hS hr
    simp [execOp, ho, Instr.loadAt, Instr.sureAddr, he, hl]
  unfold evLoad at h
  split at h
  · rename_i id idx off hv
    rw [hv] at hx
    split at h
    · rename_i sz es mu hl
      cases he : es[idx]? with
      | none => simp [he] at h
      | some e =>
        simp only [he, Option.bind_some] at h
        rcases hS.obj id sz es mu (only_live hl) with h0 | ⟨p, c, t', ho'⟩
        · rw [h0.1] at he; simp at he
        · generalize hu : a.eval x = u at hx
          cases hx with
          | ref _ _ _ _ q hq =>
            rw [ho'.place] at hq
            cases hq
            obtain ⟨f, hf1, hf2⟩ := ho'.elem he
            rw [ho'.size] at hu
            obtain ⟨y, hy, hr⟩ := run_readC (w := w) (γ := γ) (I := I) h hf1 hf2
            exact fin hu hy hr
    · cases h
  · rename_i e off hv
    rw [hv] at hx
    generalize hu : a.eval x = u at hx
    cases hx with
    | elem _ _ _ g b f hc hh =>
      obtain ⟨y, hy, hr⟩ := run_readC (w := w) (γ := noPlaces) (I := I) h (fun j hj => (hc j hj).2) hh
      exact fin hu hy (hr.mono (Pres.refl I w) (fun _ _ h => h) (by simp [noPlaces]))
  · cases h

omit hS in
theorem splice_get {cells new : List V} {off j : Nat} (hle : off + new.length ≤ cells.length) :
    (splice cells off new)[j]? = if off ≤ j ∧ j < off + new.length then new[j - off]? else cells[j]? := by
  unfold splice
  have h1 : (cells.take off).length = off := by simp; omega
  rw [List.append_assoc]
  by_cases hj : j < off
  · rw [List.getElem?_append_left (by omega), if_neg (by omega), List.getElem?_take, if_pos hj]
  · rw [List.getElem?_append_right (by omega), h1]
    by_cases hj2 : j < off + new.length
    · rw [List.getElem?_append_left (by omega), if_pos ⟨by omega, hj2⟩]
    · rw [List.getElem?_append_right (by omega), if_neg (by omega), List.getElem?_drop]
      congr 1
      omega

omit hS in
theorem splice_len {cells new : List V} {off : Nat} (hle : off + new.length ≤ cells.length) : (splice cells off new).length = cells.length := by
  unfold splice
  simp
  omega

omit hS in
theorem write_len {e x : V} {off : Nat} (hle : off + x.cells.length ≤ e.cells.length) : (e.write off x).cells.length = e.cells.length := by
  unfold V.write
  split
  · assumption
  · exact splice_len hle

omit hS in
theorem write_get {e x : V} {off j : Nat} (hle : off + x.cells.length ≤ e.cells.length) :
    (e.write off x).cells[j]? = if off ≤ j ∧ j < off + x.cells.length then x.cells[j - off]? else e.cells[j]? := by
  unfold V.write
  split
  · rename_i heq
    have h0 : off = 0 := by omega
    subst h0
    by_cases hj : j < x.cells.length
    · simp [hj]
    · rw [if_neg (by omega)]
      rw [List.getElem?_eq_none (by omega), List.getElem?_eq_none (by omega)]
  · exact splice_get hle

omit hS in
theorem run_storeVar_at {t : TypeId} {u : Value} {g b : Nat} {c : Array Value} {t' : TypeId} (hsz : sizeT P t = some u.cells.size) (hg : w.heap[g]? = some (.cells c t' (0, 0)))
    (hb : b + u.cells.size ≤ c.size) (h1 : ∀ x ∈ u.cells.toList, x.oneCell' = true) :
    ∃ c' w', (storeVar t ⟨g, b, none⟩ u).run P w = .ok () w' ∧ w'.heap[g]? = some (.cells c' t' (0, 0)) ∧ c'.size = c.size ∧
      (∀ j, c'[j]? = if b ≤ j ∧ j < b + u.cells.size then u.cells[j - b]? else c[j]?) ∧ (∀ k, k ≠ g → w'.heap[k]? = w.heap[k]?) ∧ w'.heap.size = w.heap.size ∧
      w'.os = w.os ∧ w'.tape = w.tape ∧ w'.output = w.output := by
  have hst := run_storeCells_at P g b t' u.cells.toList 0 c w hg (by simpa using hb) h1
  simp only [Nat.add_zero] at hst
  refine ⟨(c.toList.take b ++ u.cells.toList ++ c.toList.drop (b + u.cells.toList.length)).toArray, _, ?_, setRow_heap w g c _ t' (0, 0) hg, ?_, ?_, ?_, ?_, ?_, ?_, ?_⟩
  · simp [storeVar, run_sizeT hsz, hst]
  · simp; omega
  · intro j
    have h1 : (c.toList.take b).length = b := by simp; omega
    rw [List.getElem?_toArray, List.append_assoc]
    by_cases hj : j < b
    · rw [List.getElem?_append_left (by omega), if_neg (by omega), List.getElem?_take, if_pos hj, Array.getElem?_toList]
    · rw [List.getElem?_append_right (by omega), h1]
      by_cases hj2 : j < b + u.cells.size
      · rw [List.getElem?_append_left (by simp; omega), if_pos ⟨by omega, hj2⟩, Array.getElem?_toList]
      · rw [List.getElem?_append_right (by simp; omega), if_neg (by omega), List.getElem?_drop, Array.getElem?_toList]
        congr 1
        simp
        omega
  · intro k hk
    simp only [World.setRow, Array.getElem?_modify]
    rw [if_neg (fun e => hk e.symm)]
  · simp [World.setRow]
  · rfl
  · rfl
  · rfl

omit hS in
theorem cells_split {sz i j k : Nat} (hj : j < sz) (hk : k < sz) {n m : Nat} (h : i * sz + j = n * sz + k + m * 0) : i = n ∧ j = k := by
  simp at h
  have h1 : i = n := by
    have e1 : (i * sz + j) / sz = i := by rw [Nat.mul_comm, Nat.mul_add_div (by omega), Nat.div_eq_of_lt hj]; omega
    have e2 : (n * sz + k) / sz = n := by rw [Nat.mul_comm, Nat.mul_add_div (by omega), Nat.div_eq_of_lt hk]; omega
    rw [← e1, ← e2, h]
  subst h1
  exact ⟨rfl, by omega⟩

theorem lands_store {t : TypeId} {x y : Operand} (ho : o.op = .store t x y) {ids : List Nat} {δ : List (Nat × Obj)} (h : evStore P (only ids H) t (opd τ y) (opd τ x) = some δ) :
    Lands C P o a w τ (putH H δ) .any := by
  have hx := rep_opd hS x
  have hy := rep_opd hS y
  unfold evStore at h
  split at h
  · rename_i id idx off hv
    rw [hv] at hx
    split at h
    · rename_i sz es hl0
      have hl := only_live hl0
      split at h
      · rename_i e n he hn
        split at h
        · rename_i hcond
          obtain ⟨hsol, hlen, hpos, hoff⟩ := hcond
          simp at h
          subst h
          rw [putH_one]
          rcases hS.obj id sz es true hl with h0 | ⟨p, c, t', ho'⟩
          · rw [h0.1] at he; simp at he
          · generalize hu : a.eval x = u at hx
            cases hx with
            | ref _ _ _ _ q hq =>
              rw [ho'.place] at hq
              cases hq
              rw [ho'.size] at hu
              obtain ⟨hc1, hc2, hc3⟩ := solid_cells hy hsol
              have hel : e.cells.length = sz := ho'.len e (List.mem_of_getElem? he)
              have hidx : idx < es.length := (List.getElem?_eq_some_iff.1 he).1
              have hsz : sizeT P t = some (a.eval y).cells.size := by rw [hn, hc1, hlen]
              have hroom : p.off + idx * sz + off + (a.eval y).cells.size ≤ c.size := by
                rw [hc1, hlen]
                obtain ⟨u1, hu1, _⟩ := ho'.cell idx (off + n - 1) e e.cells[off + n - 1] he (List.getElem?_eq_getElem (by omega))
                have := (Array.getElem?_eq_some_iff.1 hu1).1
                omega
              obtain ⟨c', w', hrun, hg', hs', hget, hfar, hsize, hos, htape, hout⟩ := run_storeVar_at (w := w) hsz ho'.blk hroom hc2
              have hlive : (H id).isLive := by rw [hl]; trivial
              have hd := hS.dom id p ho'.place
              have k1 := (hS.kill id).touch hd.2.1 (hS.idle hlive ho'.place) ho'.blk hg' hs' (fun y hy => absurd hy (ho'.mutb rfl y)) hfar hsize hos htape hout
              have hp : Pres I w w' := ⟨fun g z hz => by
                  by_cases eg : g = p.blk
                  · subst eg; exact absurd hz (ho'.mutb rfl z)
                  · simp [World.cell?, hfar g eg], fun g c0 t0 h0 => by
                  by_cases eg : g = p.blk
                  · subst eg; rw [ho'.blk] at h0; cases h0; exact ⟨c', hg', hs'⟩
                  · exact ⟨c0, (hfar g eg).trans h0, rfl⟩, fun g es n hx h0 => by
                  by_cases eg : g = p.blk
                  · subst eg; rw [ho'.blk] at h0; cases h0
                  · exact (hfar g eg).trans h0⟩
              have hle : off + (opd τ y).cells.length ≤ e.cells.length := by omega
              have k2 : Sim C γ I τ (updH (updH H id .dead) id (.live sz (es.set idx (e.write off (opd τ y))) true)) a.tmps w' := by
                refine k1.revive (p := p) (c := c') (t := t') ?_ ⟨ho'.place, ho'.size, hg', ?_, ?_, fun _ z hz => ho'.mutb rfl z hz, by simp⟩
                · rw [updH_updH]; exact hS.idle hlive ho'.place
                · intro e' he'
                  rcases List.mem_or_eq_of_mem_set he' with h1 | h1
                  · exact ho'.len e' h1
                  · subst h1; rw [write_len hle]; exact hel
                · intro i j e' z he' hz
                  by_cases hi : i = idx
                  · subst hi
                    rw [List.getElem?_set_self hidx] at he'
                    cases he'
                    rw [write_get hle] at hz
                    rw [hget]
                    by_cases hin : off ≤ j ∧ j < off + (opd τ y).cells.length
                    · rw [if_pos hin] at hz
                      obtain ⟨z', hz', hr⟩ := hc3 _ _ hz
                      refine ⟨z', ?_, hr.mono hp (fun _ _ h => h) fun _ _ h => h⟩
                      rw [if_pos (by omega)]
                      rw [show p.off + i * sz + j - (p.off + i * sz + off) = j - off from by omega]
                      exact hz'
                    · rw [if_neg hin] at hz
                      obtain ⟨z', hz', hr⟩ := ho'.cell i j e z he hz
                      refine ⟨z', ?_, hr.mono hp (fun _ _ h => h) fun _ _ h => h⟩
                      rw [if_neg (by omega)]
                      exact hz'
                  · rw [List.getElem?_set_ne (fun h => hi h.symm)] at he'
                    obtain ⟨z', hz', hr⟩ := ho'.cell i j e' z he' hz
                    refine ⟨z', ?_, hr.mono hp (fun _ _ h => h) fun _ _ h => h⟩
                    rw [hget, if_neg ?_]
                    · exact hz'
                    · intro hin
                      have hjl : j < sz := by
                        have := (List.getElem?_eq_some_iff.1 hz).1
                        rw [ho'.len e' (List.mem_of_getElem? he')] at this
                        exact this
                      have hk : p.off + i * sz + j - p.off - idx * sz < sz := by omega
                      have := cells_split (sz := sz) (i := i) (j := j) (n := idx) (k := p.off + i * sz + j - p.off - idx * sz) (m := 0) hjl hk (by omega)
                      exact hi this.1
              rw [updH_updH] at k2
              refine lands_skip (w' := w') ?_ k2
              simp [execOp, ho, Instr.storeAt, Instr.sureAddr, hu, hrun]
        · cases h
      · cases h
    · cases h
  · cases h

omit hS in
theorem shift_rep {x y : V} {u : Value} {n : Nat} (h : shift n x = some y) (hr : Rep I w γ x u) :
    ∃ g b, u = .pointer (some ⟨g, b, none⟩) ∧ Rep I w γ y (.pointer (some ⟨g, b + n, none⟩)) := by
  cases hr <;> simp [shift] at h
  case ref id idx off p hp =>
    subst h
    refine ⟨_, _, rfl, ?_⟩
    rw [Nat.add_assoc]
    exact .ref _ _ _ _ _ hp
  case elem e off g b f hc hh =>
    subst h
    refine ⟨_, _, rfl, ?_⟩
    rw [Nat.add_assoc]
    exact .elem _ _ _ _ _ f hc hh

theorem lands_fieldAddr {s : TypeId} {x : Operand} {f : Nat} (ho : o.op = .fieldAddr s x f) (h : evFieldAddr P s f (opd τ x) = some v) : Lands C P o a w τ H v := by
  unfold evFieldAddr at h
  cases hf : fieldT P s f with
  | none => simp [hf] at h
  | some fd =>
    simp only [hf, Option.bind_some] at h
    split at h
    · cases h
    · rename_i hsz
      obtain ⟨g, b, hu, hr⟩ := shift_rep h (rep_opd hS x)
      refine lands_value (w' := w) ?_ hS hr
      unfold fieldT at hf
      split at hf
      · rename_i fs hfs
        cases hs : sizeT P fd.type with
        | none => simp [hs] at hsz
        | some n =>
          have hn : n ≠ 0 := by rintro rfl; simp [hs] at hsz
          simp [execOp, ho, Instr.fieldAt, run_underlying hfs, hf, hu, Instr.sureAddr, fieldPlace, run_sizeT hs, hn, addr_add]
      · cases hf

theorem lands_indexAddr {t : TypeId} {x i : Operand} (ho : o.op = .indexAddr t x i) {ids : List Nat} (h : evIndexAddr P (only ids H) t (opd τ x) (opd τ i) = some v) : Lands C P o a w τ H v := by
  have hx := rep_opd hS x
  have hi := rep_opd hS i
  unfold evIndexAddr at h
  split at h
  · rename_i k n hin
    rw [hin] at hi
    have hi' := hi.sc_eq
    split at h
    · rename_i et hut
      cases hs : sizeT P et with
      | none => simp [hs] at h
      | some sz =>
        simp only [hs, Option.bind_some] at h
        split at h
        · rename_i s es hv
          split at h
          · rename_i hc
            obtain ⟨rfl, h0⟩ := hc
            cases he : es[n.toNat]? with
            | none => simp [he] at h
            | some e =>
              simp [he] at h
              subst h
              have hlt : n.toNat < es.length := (List.getElem?_eq_some_iff.1 he).1
              rw [hv] at hx
              generalize hu : a.eval x = u at hx
              cases hx with
              | nilslice => simp at hlt
              | slice _ _ _ g b cap f hcap hsz hcc hh =>
                refine lands_value (u := .pointer (some ⟨g, b + n.toNat * s, none⟩)) (w' := w) ?_ hS ?_
                · have hn : n < es.length := by omega
                  simp [execOp, ho, Instr.indexAt, hi', asIntOf, run_underlying hut, hu, h0, hn, run_sizeT hs, addr_add]
                · have := Rep.elem (I := I) (w := w) γ e 0 g (b + n.toNat * s) (f n.toNat) (fun j hj => by
                    rw [hsz e (List.mem_of_getElem? he)] at hj
                    exact hcc _ _ hlt hj) (fun j c hc => hh _ _ _ _ he hc)
                  simpa using this
          · cases h
        · rename_i id off len hv
          split at h
          · rename_i s es mu hl0
            have hl := only_live hl0
            split at h
            · rename_i hc
              obtain ⟨rfl, h0, h1⟩ := hc
              simp at h
              subst h
              rw [hv] at hx
              generalize hu : a.eval x = u at hx
              cases hx with
              | own0 => simp at h1; omega
              | own _ _ _ _ cap p c t' hp hcap hb hroom =>
                rcases hS.obj id s es mu hl with h2 | ⟨q, c2, t2, ho'⟩
                · rw [h2.2] at hp; cases hp
                · rw [ho'.place] at hp
                  cases hp
                  rw [ho'.size] at hu
                  refine lands_value (u := .pointer (some ⟨p.blk, p.off + off * s + n.toNat * s, none⟩)) (w' := w) ?_ hS ?_
                  · simp [execOp, ho, Instr.indexAt, hi', asIntOf, run_underlying hut, hu, h0, h1, run_sizeT hs, addr_add]
                  · have := Rep.ref (I := I) (w := w) γ id (off + n.toNat) 0 p ho'.place
                    rw [ho'.size, Nat.add_mul] at this
                    rw [Nat.add_assoc]
                    simpa using this
            · cases h
          · cases h
        · cases h
    · rename_i len et hut
      cases hs : sizeT P et with
      | none => simp [hs] at h
      | some sz =>
        simp only [hs, Option.bind_some] at h
        split at h
        · rename_i hc
          obtain ⟨g, b, hu, hr⟩ := shift_rep h hx
          refine lands_value (w' := w) ?_ hS hr
          simp [execOp, ho, Instr.indexAt, hi', asIntOf, run_underlying hut, hu, Instr.sureAddr, hc.1, hc.2, run_sizeT hs, addr_add]
        · cases h
    · cases h
  · cases h

theorem lands_field {s : TypeId} {x : Operand} {f : Nat} (ho : o.op = .field s x f) {cs : List V} (hx : opd τ x = .agg cs) {fd : Field} (hf : fieldT P s f = some fd)
    (h : readC P fd.type cs fd.offset = some v) : Lands C P o a w τ H v := by
  have hr := rep_opd hS x
  rw [hx] at hr
  generalize hu : a.eval x = u at hr
  cases hr with
  | agg _ _ vs hl hh =>
    unfold fieldT at hf
    split at hf
    · rename_i fs hfs
      unfold readC at h
      split at h
      · rename_i hagg
        cases hs : sizeT P fd.type with
        | none => simp [hs] at h
        | some n =>
          simp only [hs, Option.bind_some] at h
          split at h
          · rename_i hle
            simp at h
            subst h
            cases hud : P.underlying fd.type with
            | none => simp [aggT, hud] at hagg
            | some d =>
              refine lands_value (u := .agg (vs.extract fd.offset (fd.offset + n))) (w' := w) ?_ hS ?_
              · simp [execOp, ho, Instr.field, run_underlying hfs, hf, hu, asAgg, part, run_aggT hud, hagg, run_sizeT hs]
              · refine .agg _ _ _ (by simp; omega) fun j c y hj hy => ?_
                rw [List.getElem?_take] at hj
                split at hj
                · rename_i hjn
                  rw [List.getElem?_drop] at hj
                  refine hh (fd.offset + j) c y hj ?_
                  rw [← hy, Array.getElem?_extract, if_pos (by omega)]
                · cases hj
          · cases h
      · rename_i hagg
        split at h
        · rename_i d hud
          have hlt : fd.offset < vs.size := by
            have := (List.getElem?_eq_some_iff.1 h).1
            omega
          refine lands_value (u := vs[fd.offset]) (w' := w) ?_ hS (hh _ _ _ h (by simp [hlt]))
          simp [execOp, ho, Instr.field, run_underlying hfs, hf, hu, asAgg, part, run_aggT hud, hagg, hlt]
        · cases h
    · cases hf

theorem lands_extract {x : Operand} {i : Nat} (ho : o.op = .extract x i) {vs : List V} (hx : opd τ x = .tup vs) (h : vs[i]? = some v) : Lands C P o a w τ H v := by
  have hr := rep_opd hS x
  rw [hx] at hr
  generalize hu : a.eval x = u at hr
  cases hr with
  | tup _ _ us hl hh =>
    have hlt : i < us.size := by
      have := (List.getElem?_eq_some_iff.1 h).1
      omega
    refine lands_value (u := us[i]) (w' := w) ?_ hS (hh _ _ _ h (by simp [hlt]))
    simp [execOp, ho, Instr.extract, hu, hlt]

theorem lands_makeFunc {fn : Fn} {xs ys : Array Operand} (ho : o.op = .makeFunc fn xs ys) : Lands C P o a w τ H (.fn fn (xs.toList.map (opd τ)) (ys.toList.map (opd τ))) := by
  refine lands_value (u := .func fn (xs.map a.eval) (ys.map a.eval)) (w' := w) ?_ hS ?_
  · simp [execOp, ho, Instr.makeFunc]
  · refine .fn _ _ _ _ _ _ (by simp) (by simp) (fun j c u hc hu => ?_) (fun j c u hc hu => ?_)
    all_goals
      simp at hc hu
      obtain ⟨x, hx, rfl⟩ := hc
      obtain ⟨y, hy, rfl⟩ := hu
      rw [hx] at hy
      cases hy
      exact rep_opd hS x

theorem lands_nilCheck {x : Operand} (ho : o.op = .nilCheck x) (hv : (∃ id idx off, opd τ x = .ref id idx off) ∨ ∃ e off, opd τ x = .elem e off) : Lands C P o a w τ H (opd τ x) := by
  have hr := rep_opd hS x
  have : ∃ ad, a.eval x = .pointer (some ad) := by
    rcases hv with ⟨id, idx, off, e⟩ | ⟨e', off, e⟩ <;> rw [e] at hr <;> generalize a.eval x = u at hr <;> cases hr <;> exact ⟨_, rfl⟩
  obtain ⟨ad, hu⟩ := this
  refine lands_value (u := .pointer (some ad)) (w' := w) ?_ hS (hu ▸ hr)
  simp [execOp, ho, hu]

omit hS in
theorem len_rep {x : V} {u : Value} {n : Nat} (hr : Rep I w γ x u) (h : x.len = some n) : ∃ A cap, u = .slice A n cap := by
  cases hr with
  | sc _ u =>
    cases u <;> simp [V.len] at h
    subst h
    exact ⟨_, _, rfl⟩
  | nilslice => simp [V.len] at h; subst h; exact ⟨_, _, rfl⟩
  | slice => simp [V.len] at h; subst h; exact ⟨_, _, rfl⟩
  | own => simp [V.len] at h; subst h; exact ⟨_, _, rfl⟩
  | own0 => simp [V.len] at h; subst h; exact ⟨_, _, rfl⟩
  | mt => simp [V.len] at h; subst h; exact ⟨_, _, rfl⟩
  | _ => simp [V.len] at h

theorem lands_len {c : Call} {x : Operand} {n : Nat} {t e : TypeId} (ho : o.op = .call c) (hc : c.callee = .builtin .len) (hargs : c.args.toList = [x]) (hts : c.argTypes.toList = [t]) (ht : P.underlying t = some (.slice e))
    (h : (opd τ x).len = some n) : Lands C P o a w τ H (.sc (.int .i64 n)) := by
  obtain ⟨A, cap, hu⟩ := len_rep (rep_opd hS x) h
  refine lands_value (u := .int .i64 n) (w' := w) ?_ hS (.sc _ _)
  have h1 : c.args = #[x] := by rw [← Array.toArray_toList (xs := c.args), hargs]
  have h2 : c.argTypes = #[t] := by rw [← Array.toArray_toList (xs := c.argTypes), hts]
  simp [execOp, ho, resolve, hc, h1, h2, invoke, builtin, Builtin.len_, run_underlying ht, hu, goInt]

end
end Go.Idl
