/-
  What the evaluator says of an operation holds in the model: append, the step whole.
-/
import Derived.Test.YtnafhnnhhdmnfaaIdlJ
namespace Go.Idl
set_option linter.all false
open Go.RowKit

variable {P : Program} {C : Ctx} {γ : Places} {I : Imm} {τ : Nat → V} {H : Heap} {w : World} {a : Act} {o : Oper} {v : V} {tm : Array Value}

/-- The elements of two rows behind one another. -/
theorem row_append {sz : Nat} {es ys : List V} {olds nl rest : List Value} (h1 : olds.length = es.length * sz)
    (hlen : ∀ y ∈ ys, y.cells.length = sz) (hlen' : ∀ y ∈ es, y.cells.length = sz) (h2 : nl.length = ys.length * sz)
    (hold : ∀ (i j : Nat) (e c : V), es[i]? = some e → e.cells[j]? = some c → ∃ u, olds[i * sz + j]? = some u ∧ Rep I w γ c u)
    (hnew : ∀ (i j : Nat) (e c : V), ys[i]? = some e → e.cells[j]? = some c → ∃ u, nl[i * sz + j]? = some u ∧ Rep I w γ c u) :
    ∀ (i j : Nat) (e c : V), (es ++ ys)[i]? = some e → e.cells[j]? = some c → ∃ u, (olds ++ nl ++ rest)[i * sz + j]? = some u ∧ Rep I w γ c u := by
  intro i j e c he hc
  have lt : ∀ (l : List V) (i j : Nat) (e c : V), (∀ y ∈ l, y.cells.length = sz) → l[i]? = some e → e.cells[j]? = some c → i * sz + j < l.length * sz := by
    intro l i j e c hl he hc
    have hi : i < l.length := (List.getElem?_eq_some_iff.1 he).1
    have hj : j < sz := by
      have := (List.getElem?_eq_some_iff.1 hc).1
      rw [hl e (List.mem_of_getElem? he)] at this
      exact this
    have h2 := Nat.mul_le_mul_right sz (show i + 1 ≤ l.length from hi)
    rw [Nat.add_mul] at h2
    omega
  by_cases hi : i < es.length
  · rw [List.getElem?_append_left hi] at he
    obtain ⟨u, hu, hr⟩ := hold i j e c he hc
    refine ⟨u, ?_, hr⟩
    have := lt es i j e c hlen' he hc
    rw [List.append_assoc, List.getElem?_append_left (by omega)]
    exact hu
  · rw [List.getElem?_append_right (by omega)] at he
    obtain ⟨u, hu, hr⟩ := hnew _ j e c he hc
    refine ⟨u, ?_, hr⟩
    have := lt ys _ j e c hlen he hc
    have e1 : i * sz = es.length * sz + (i - es.length) * sz := by rw [← Nat.add_mul]; congr 1; omega
    rw [List.append_assoc, List.getElem?_append_right (by omega), List.getElem?_append_left (by omega), ← hu]
    congr 1
    omega

theorem Sim.bornAs (h : Sim C γ I τ H tm w) {nid sz : Nat} {es : List V} {c : Array Value} {t : TypeId} {mu : Bool} (hn : H nid = .unborn)
    (hlen : ∀ e, e ∈ es → e.cells.length = sz)
    (hcell : ∀ (i j : Nat) (e x : V), es[i]? = some e → e.cells[j]? = some x → ∃ u, c[i * sz + j]? = some u ∧ Rep I w γ x u) (hf : mu = false → es.all V.isF = true) :
    ∃ I', Sim C (updP γ nid ⟨w.heap.size, 0, sz⟩) I' τ (updH H nid (.live sz es mu)) tm (w.alloc (.cells c t)) ∧
      (w.alloc (.cells c t)).heap[w.heap.size]? = some (.cells c t (0, 0)) := by
  obtain ⟨h1, h2⟩ := h.born (t := t) hn hlen hcell
  cases mu with
  | true => exact ⟨I, h1, h2⟩
  | false =>
    obtain ⟨I', _, h3⟩ := h1.freezeOne (updH_same _ _ _) (hf rfl)
    rw [updH_updH] at h3
    exact ⟨I', h3, h2⟩

theorem kill_cells (h : Sim C γ I τ H tm w) {id sz off : Nat} {es : List V} {mu : Bool} (hl : H id = .live sz es mu) : (mu = false → es.all V.isF = true) ∧ ∀ e ∈ es.drop off, e ∈ es := by
  refine ⟨fun hm => ?_, fun e he => List.mem_of_mem_drop he⟩
  rcases h.obj id sz es mu hl with ⟨rfl, _⟩ | ⟨p, c, t, ho⟩
  · rfl
  · exact (ho.fix hm).2.2

section
variable (hS : Sim C γ I τ H a.tmps w)
include hS

theorem lands_append {c : Call} {x y : Operand} {t t' : TypeId} (ho : o.op = .call c) (hc : c.callee = .builtin .append) (hargs : c.args.toList = [x, y]) (hts : c.argTypes.toList = [t, t'])
    (htt : t = t' ∨ strT P t' = true) {nid : Nat} {ids : List Nat} {δ : List (Nat × Obj)} (h : evAppend P nid (only ids H) t (opd τ x) (opd τ y) = some (v, δ)) : Lands C P o a w τ (putH H δ) v := by
  have hargs' : c.args = #[x, y] := by rw [← Array.toArray_toList (xs := c.args), hargs]
  have hts' : c.argTypes = #[t, t'] := by rw [← Array.toArray_toList (xs := c.argTypes), hts]
  have htt' : t' = t ∨ strT P t' = true := htt.imp Eq.symm id
  unfold evAppend at h
  split at h
  · rename_i et h0 het
    have hn := only_unborn h0
    have hu := elemT_und het
    split at h
    · rename_i i z hi hz
      have hz' : i.zero = some z := by simpa [zeroT, hi] using hz
      split at h
      · rename_i hzc
        obtain ⟨hzs, hpos⟩ := hzc
        cases hys : news (only ids H) i.size (opd τ y) with
        | none => simp [hys] at h
        | some ys =>
        simp only [hys, Option.bind_some] at h
        have hx := rep_opd hS x
        have hy := rep_opd hS y
        have exec : ∀ {u : Value} {w' : World}, (Builtin.append_ #[t, t'] o.type #[a.eval x, a.eval y]).run P w = .ok u w' → (execOp a.eval o).run P w = .ok (.value u) w' := by
          intro u w' hrun
          simp [execOp, ho, resolve, hc, hargs', hts', invoke, builtin, hrun]
        -- onto a slice without a place
        have fresh : ∀ {A : Option Addr}, a.eval x = .slice A 0 0 → ys.length * i.bytes ≤ 68719476736 → ys.length ≤ 4294967296 → ys.all (fun y => y.cells.length = i.size) = true → ys.all V.isF = true →
            ∀ {H' : Heap} {mu : Bool}, Sim C γ I τ H' a.tmps w → H' nid = .unborn → Lands C P o a w τ (updH H' nid (.live i.size ys mu)) (.own nid 0 ys.length) := by
          intro A hA hby h63 hcl hfz H' mu hS' hn'
          obtain ⟨nl, hs⟩ := src_rep (P := P) hS hpos hys hy hcl
          rcases Nat.eq_zero_or_pos ys.length with hl0 | hl0
          · have hy0 : ys = [] := List.eq_nil_of_length_eq_zero hl0
            subst hy0
            have hrun := run_append_in (P := P) htt' hu hi hs (A := A) (sLen := 0) (sCap := 0) (by simp) o.type
            have hnl : nl = [] := List.eq_nil_of_length_eq_zero (by simpa using hs.len)
            subst hnl
            refine lands_value (u := .slice A 0 0) (w' := w) (exec ?_) (hS'.bornNil hn' i.size mu) (.own0 _ _ _ _)
            rw [hA, hrun]
            cases A <;> simp [storeCells]
          · have hrun := run_append_out (P := P) htt' hu hi hz' hs (A := A) (sLen := 0) (sCap := 0) (olds := []) (fun w' _ => by
              cases A <;> simp [Builtin.firstCells, loadCells, loadCellsFrom]) (by omega) (by omega) (by simpa using hby) o.type
            simp only [Nat.zero_add] at hrun
            have hcl' : ∀ y ∈ ys, y.cells.length = i.size := by
              intro y hy
              rw [List.all_eq_true] at hcl
              simpa using hcl y hy
            have hrow := row_append (I := I) (w := w.drew) (γ := γ) (es := []) (olds := []) (rest := (Builtin.zeroCells z.cells (grownCap w ys.length 0 et - ys.length)).toList) (by simp) hcl' (by simp) hs.len (by simp)
              (fun i j e c he hcc => (hs.cell i j e c he hcc).imp fun u hu => ⟨hu.1, hu.2.drawn _⟩)
            obtain ⟨I', hS2, hblk⟩ := Sim.bornAs (t := et) (mu := mu) (c := (#[] ++ nl.toArray ++ Builtin.zeroCells z.cells (grownCap w ys.length 0 et - ys.length))) (hS'.drawn (w.drawn + 1)) hn' hcl' (fun i j e c he hcc => by
              obtain ⟨u, hu, hr⟩ := hrow i j e c (by simpa using he) hcc
              refine ⟨u, ?_, hr⟩
              rw [← hu, ← Array.getElem?_toList]
              simp) (fun _ => hfz)
            refine lands_value (exec (by rw [hA]; exact hrun)) hS2 ?_
            have := Rep.own (I := I') (w := ({ w with drawn := w.drawn + 1 } : World).alloc (.cells (#[] ++ nl.toArray ++ Builtin.zeroCells z.cells (grownCap w ys.length 0 et - ys.length)) et))
              (updP γ nid ⟨w.heap.size, 0, i.size⟩) nid 0 ys.length (grownCap w ys.length 0 et) ⟨w.heap.size, 0, i.size⟩ _ et (by simp [updP]) (grownCap_ge _ _ _ _) hblk (by
                have := grownCap_ge w ys.length 0 et
                simp only [Array.size_append, size_zeroCells, hzs, List.size_toArray, hs.len]
                have e : grownCap w ys.length 0 et * i.size = ys.length * i.size + (grownCap w ys.length 0 et - ys.length) * i.size := by rw [← Nat.add_mul]; congr 1; omega
                simp
                omega)
            simpa using this
        split at h
        · rename_i id off len hv
          split at h
          · rename_i sz es mu hl0
            have hl := only_live hl0
            split at h
            · rename_i hcond
              obtain ⟨hsz, hend, hby, h63, hcl, hfz⟩ := hcond
              subst hsz
              simp only [Option.some.injEq, Prod.mk.injEq] at h
              obtain ⟨rfl, rfl⟩ := h
              rw [putH_cons, putH_one]
              rw [hv] at hx
              have hkill := hS.kill id
              have hne : nid ≠ id := by rintro rfl; rw [hn] at hl; cases hl
              have hn' : updH H id .dead nid = .unborn := by rw [updH_ne hne]; exact hn
              have hcl' : ∀ y ∈ ys, y.cells.length = i.size := by
                intro y hy
                rw [List.all_eq_true] at hcl
                simpa using hcl y hy
              generalize hu1 : a.eval x = u1 at hx
              cases hx with
              | own0 =>
                simp only [Nat.add_zero] at hend
                have hd : es.drop off = [] := by rw [hend]; simp
                rw [hd, List.nil_append, Nat.zero_add]
                exact fresh hu1 (by simpa using hby) (by simpa using h63) hcl hfz hkill hn'
              | own _ _ _ _ cap p cc tt hp hcap hb hroom =>
                rcases hS.obj id i.size es mu hl with ⟨_, hg⟩ | ⟨q, c', t2, ho'⟩
                · rw [hg] at hp; cases hp
                · rw [ho'.place] at hp
                  cases hp
                  have hcc : cc = c' := by
                    rw [ho'.blk] at hb
                    cases hb
                    rfl
                  rw [hcc] at hroom
                  obtain ⟨nl, hs⟩ := src_rep (P := P) hS hpos hys hy hcl
                  have hone := hs.one hpos hcl' hfz
                  obtain ⟨hfix, _⟩ := kill_cells (off := off) hS hl
                  have hlenD : ∀ e ∈ es.drop off, e.cells.length = i.size := fun e he => ho'.len e (List.mem_of_mem_drop he)
                  have hfD : mu = false → (es.drop off ++ ys).all V.isF = true := fun hm => by
                    have h1 := hfix hm
                    rw [List.all_eq_true] at h1 hfz ⊢
                    intro e he
                    rcases List.mem_append.1 he with he | he
                    · exact h1 e (List.mem_of_mem_drop he)
                    · exact hfz e he
                  have hlive : (H id).isLive := by rw [hl]; trivial
                  have hdom := hS.dom id p ho'.place
                  have hdl : (es.drop off).length = len := by simp; omega
                  rw [ho'.size] at hu1 hroom
                  have cellD : ∀ (k j : Nat) (e cx : V), (es.drop off)[k]? = some e → e.cells[j]? = some cx → ∃ u, c'[p.off + off * i.size + (k * i.size + j)]? = some u ∧ Rep I w γ cx u := by
                    intro k j e cx he hcx
                    rw [List.getElem?_drop] at he
                    obtain ⟨u, hu, hr⟩ := ho'.cell _ _ _ _ he hcx
                    refine ⟨u, ?_, hr⟩
                    rw [← hu]
                    congr 1
                    rw [Nat.add_mul]
                    omega
                  by_cases hfit : len + ys.length ≤ cap
                  · -- in place
                    have hrun := run_append_in (P := P) htt' hu hi hs (A := some ⟨p.blk, p.off + off * i.size, none⟩) (sLen := len) (sCap := cap) hfit o.type
                    have hend2 : p.off + off * i.size + len * i.size = p.off + es.length * i.size := by rw [← hend, Nat.add_mul]; omega
                    have hroom2 : p.off + es.length * i.size + 0 + nl.length ≤ c'.size := by
                      have h1 : (off + (len + ys.length)) * i.size ≤ (off + cap) * i.size := Nat.mul_le_mul_right _ (by omega)
                      rw [hs.len, ← hend]
                      have h2 : (off + len) * i.size + ys.length * i.size = (off + (len + ys.length)) * i.size := by rw [← Nat.add_mul]; congr 1; omega
                      omega
                    have hst := run_storeCells_at P p.blk (p.off + es.length * i.size) t2 nl 0 c' w ho'.blk hroom2 hone
                    simp only [Nat.add_zero] at hst hroom2
                    simp only [addr_add, hend2, hst, Result.andThen_ok] at hrun
                    generalize hc2 : (c'.toList.take (p.off + es.length * i.size) ++ nl ++ c'.toList.drop (p.off + es.length * i.size + nl.length)).toArray = c2 at hrun
                    have hc2s : c2.size = c'.size := by rw [← hc2]; simp; omega
                    have hget : ∀ j, c2[j]? = if p.off + es.length * i.size ≤ j ∧ j < p.off + es.length * i.size + nl.length then nl[j - (p.off + es.length * i.size)]? else c'[j]? := by
                      intro j
                      have h1 : (c'.toList.take (p.off + es.length * i.size)).length = p.off + es.length * i.size := by simp; omega
                      rw [← hc2, List.getElem?_toArray, List.append_assoc]
                      by_cases hj : j < p.off + es.length * i.size
                      · rw [List.getElem?_append_left (by omega), if_neg (by omega), List.getElem?_take, if_pos hj, Array.getElem?_toList]
                      · rw [List.getElem?_append_right (by omega), h1]
                        by_cases hj2 : j < p.off + es.length * i.size + nl.length
                        · rw [List.getElem?_append_left (by omega), if_pos ⟨by omega, hj2⟩]
                        · rw [List.getElem?_append_right (by omega), if_neg (by omega), List.getElem?_drop, Array.getElem?_toList]
                          congr 1
                          omega
                    have hg' : (w.setRow p.blk c2).heap[p.blk]? = some (.cells c2 t2 (0, 0)) := setRow_heap w p.blk c' c2 t2 (0, 0) ho'.blk
                    have hfar : ∀ k, k ≠ p.blk → (w.setRow p.blk c2).heap[k]? = w.heap[k]? := by
                      intro k hk
                      simp only [World.setRow, Array.getElem?_modify]
                      rw [if_neg (fun e => hk e.symm)]
                    have hIk : ∀ y, I p.blk y → c2[y]? = c'[y]? := by
                      intro y hy
                      cases mu with
                      | true => exact absurd hy (ho'.mutb rfl y)
                      | false =>
                        have := (ho'.fix rfl).1 y hy
                        rw [hget, if_neg (by omega)]
                    have k1 := hkill.touch hdom.2.1 (hS.idle hlive ho'.place) ho'.blk hg' hc2s hIk hfar (by simp [World.setRow]) rfl rfl rfl
                    have hpres : Pres I w (w.setRow p.blk c2) := ⟨fun g z hz => by
                        by_cases eg : g = p.blk
                        · subst eg
                          rw [cell_blk hg', cell_blk ho'.blk]
                          exact hIk z hz
                        · simp [World.cell?, hfar g eg], fun g c0 t0 h0 => by
                        by_cases eg : g = p.blk
                        · subst eg; rw [ho'.blk] at h0; cases h0; exact ⟨c2, hg', hc2s⟩
                        · exact ⟨c0, (hfar g eg).trans h0, rfl⟩, fun g es n hx h0 => by
                        by_cases eg : g = p.blk
                        · subst eg; rw [ho'.blk] at h0; cases h0
                        · exact (hfar g eg).trans h0⟩
                    have k2 := k1.place hn' (p := ⟨p.blk, p.off + off * i.size, i.size⟩) hdom.2.1 (by simpa [World.setRow] using hdom.2.2)
                    have hγn : γ nid = none := by
                      rcases hg : γ nid with _ | p
                      · rfl
                      · exact absurd hn (hS.dom nid p hg).1
                    have hγ : ∀ id q, γ id = some q → updP γ nid ⟨p.blk, p.off + off * i.size, i.size⟩ id = some q := fun id' q hq => by
                      unfold updP
                      by_cases e : id' = nid
                      · subst e; rw [hγn] at hq; cases hq
                      · simp [e, hq]
                    have hidle2 : Idle (updP γ nid ⟨p.blk, p.off + off * i.size, i.size⟩) (updH (updH (updH H id .dead) nid .dead) nid .dead) p.blk := by
                      intro x' q hx' hq hblk
                      rw [updH_updH] at hx'
                      by_cases e : x' = nid
                      · subst e; rw [updH_same] at hx'; exact hx'
                      · rw [updH_ne e] at hx'
                        unfold updP at hq
                        simp [e] at hq
                        exact hS.idle hlive ho'.place x' q hx' hq hblk
                    have cellAll : ∀ (k j : Nat) (e cx : V), (es.drop off ++ ys)[k]? = some e → e.cells[j]? = some cx → ∃ u, c2[p.off + off * i.size + k * i.size + j]? = some u ∧ Rep I w γ cx u := by
                      intro k j e cx he hcx
                      by_cases hk : k < (es.drop off).length
                      · rw [List.getElem?_append_left hk] at he
                        obtain ⟨u, hu, hr⟩ := cellD k j e cx he hcx
                        refine ⟨u, ?_, hr⟩
                        have hj : j < i.size := by
                          have := (List.getElem?_eq_some_iff.1 hcx).1
                          rw [hlenD e (List.mem_of_getElem? he)] at this
                          exact this
                        have h2 : (off + k + 1) * i.size ≤ es.length * i.size := Nat.mul_le_mul_right _ (by simp at hk; omega)
                        rw [Nat.add_mul, Nat.add_mul] at h2
                        rw [hget, if_neg (by omega), Nat.add_assoc]
                        exact hu
                      · rw [List.getElem?_append_right (by omega)] at he
                        obtain ⟨u, hu, hr⟩ := hs.cell _ j e cx he hcx
                        refine ⟨u, ?_, hr⟩
                        have hj := (List.getElem?_eq_some_iff.1 hu).1
                        have e1 : off * i.size + k * i.size = es.length * i.size + (k - (es.drop off).length) * i.size := by
                          rw [← Nat.add_mul, ← Nat.add_mul]
                          congr 1
                          simp at hk ⊢
                          omega
                        rw [hget, if_pos (by omega), ← hu]
                        congr 1
                        omega
                    obtain ⟨I', hI', k3⟩ : ∃ I', (∀ g x, I g x → I' g x) ∧ Sim C (updP γ nid ⟨p.blk, p.off + off * i.size, i.size⟩) I' τ (updH (updH H id .dead) nid (.live i.size (es.drop off ++ ys) mu)) a.tmps (w.setRow p.blk c2) := by
                      have mk : ∀ (I' : Imm), (∀ g x, I g x → I' g x) → Sim C (updP γ nid ⟨p.blk, p.off + off * i.size, i.size⟩) I' τ (updH (updH H id .dead) nid .dead) a.tmps (w.setRow p.blk c2) →
                          (mu = true → ∀ y, ¬ I' p.blk y) → (mu = false → (∀ y, I' p.blk y → y < p.off + off * i.size + (es.drop off ++ ys).length * i.size) ∧ ∀ k j, k < (es.drop off ++ ys).length → j < i.size → I' p.blk (p.off + off * i.size + k * i.size + j)) →
                          Sim C (updP γ nid ⟨p.blk, p.off + off * i.size, i.size⟩) I' τ (updH (updH H id .dead) nid (.live i.size (es.drop off ++ ys) mu)) a.tmps (w.setRow p.blk c2) := by
                        intro I' hI' hs' hm hfx
                        have := hs'.revive (id := nid) (sz := i.size) (es := es.drop off ++ ys) (mu := mu) (p := ⟨p.blk, p.off + off * i.size, i.size⟩) (c := c2) (t := t2) hidle2
                          ⟨by simp [updP], rfl, hg', fun e he => (List.mem_append.1 he).elim (hlenD e) (hcl' e), fun k j e cx he hcx => (cellAll k j e cx he hcx).imp fun u hu => ⟨hu.1, hu.2.mono hpres hI' hγ⟩,
                            hm, fun hmf => ⟨(hfx hmf).1, (hfx hmf).2, hfD hmf⟩⟩
                        rw [updH_updH] at this
                        exact this
                      cases mu with
                      | true => exact ⟨I, fun _ _ h => h, mk I (fun _ _ h => h) k2 (fun _ => ho'.mutb rfl) (by simp)⟩
                      | false =>
                        have k2' := k2.fixCells (I' := fun g x => I g x ∨ (g = p.blk ∧ p.off + off * i.size ≤ x ∧ x < p.off + off * i.size + (es.drop off ++ ys).length * i.size)) (fun _ _ h => .inl h) (fun g x hx => by
                          rcases hx with hx | ⟨rfl, _, _⟩
                          · exact .inl hx
                          · refine .inr ⟨hdom.2.1, by simpa [World.setRow] using hdom.2.2, ?_⟩
                            rw [updH_updH] at hidle2
                            exact hidle2)
                        refine ⟨_, fun _ _ h => .inl h, mk _ (fun _ _ h => .inl h) k2' (by simp) fun _ => ⟨fun y hy => ?_, fun k j hk hj => .inr ⟨rfl, by omega, ?_⟩⟩⟩
                        · rcases hy with hy | ⟨_, _, hy⟩
                          · have := (ho'.fix rfl).1 y hy
                            have h3 : es.length * i.size ≤ off * i.size + (es.drop off ++ ys).length * i.size := by
                              rw [← Nat.add_mul]
                              exact Nat.mul_le_mul_right _ (by simp; omega)
                            omega
                          · exact hy
                        · have h2 := Nat.mul_le_mul_right i.size (show k + 1 ≤ (es.drop off ++ ys).length from hk)
                          rw [Nat.add_mul] at h2
                          omega
                    refine lands_value (exec (by rw [hu1]; exact hrun)) k3 ?_
                    have := Rep.own (I := I') (w := w.setRow p.blk c2) (updP γ nid ⟨p.blk, p.off + off * i.size, i.size⟩) nid 0 (len + ys.length) cap ⟨p.blk, p.off + off * i.size, i.size⟩ c2 t2 (by simp [updP]) hfit hg' (by
                      simp only [Nat.zero_add]
                      rw [hc2s]
                      rw [Nat.add_mul] at hroom
                      omega)
                    simpa using this
                  · -- into a new block
                    have hold := run_loadCells (P := P) (n := len * i.size) (f := fun k => (c'[p.off + off * i.size + k]?).getD undef) (a := ⟨p.blk, p.off + off * i.size, none⟩)
                    have hcellk : ∀ k, k < len * i.size → w.cell? ⟨p.blk, p.off + off * i.size + k, none⟩ = some ((c'[p.off + off * i.size + k]?).getD undef) := by
                      intro k hk
                      have h1 : k / i.size < len := (Nat.div_lt_iff_lt_mul hpos).2 hk
                      have h2 : k % i.size < i.size := Nat.mod_lt _ hpos
                      have h3 : k / i.size * i.size + k % i.size = k := by rw [Nat.mul_comm]; exact Nat.div_add_mod k i.size
                      have hio : k / i.size < (es.drop off).length := by omega
                      have hjl : k % i.size < ((es.drop off)[k / i.size]).cells.length := by rw [hlenD _ (List.getElem_mem hio)]; exact h2
                      obtain ⟨u, hu, _⟩ := cellD _ _ _ _ (List.getElem?_eq_getElem hio) (List.getElem?_eq_getElem hjl)
                      rw [h3] at hu
                      rw [cell_blk ho'.blk, hu]
                      rfl
                    have hrun := run_append_out (P := P) htt' hu hi hz' hs (A := some ⟨p.blk, p.off + off * i.size, none⟩) (sLen := len) (sCap := cap)
                      (olds := (List.range (len * i.size)).map fun k => (c'[p.off + off * i.size + k]?).getD undef) (fun w' hw => by
                        have := hold w' (fun j hj => by rw [addr_add, hw]; exact hcellk j hj)
                        simp [Builtin.firstCells, this]) (by omega) h63 hby o.type
                    have hrow := row_append (I := I) (w := w.drew) (γ := γ) (es := es.drop off) (olds := (List.range (len * i.size)).map fun k => (c'[p.off + off * i.size + k]?).getD undef)
                      (rest := (Builtin.zeroCells z.cells (grownCap w (len + ys.length) cap et - (len + ys.length))).toList) (by simp only [List.length_map, List.length_range, hdl]) hcl' hlenD hs.len (fun k j e cx he hcx => by
                        obtain ⟨u, hu, hr⟩ := cellD k j e cx he hcx
                        have hj : j < i.size := by
                          have := (List.getElem?_eq_some_iff.1 hcx).1
                          rw [hlenD e (List.mem_of_getElem? he)] at this
                          exact this
                        have hk : k < len := by
                          have := (List.getElem?_eq_some_iff.1 he).1
                          omega
                        have h2 := Nat.mul_le_mul_right i.size (show k + 1 ≤ len from hk)
                        rw [Nat.add_mul] at h2
                        refine ⟨u, ?_, hr.drawn _⟩
                        rw [List.getElem?_map, List.getElem?_range (by omega)]
                        simp [hu])
                      (fun i j e c he hcc => (hs.cell i j e c he hcc).imp fun u hu => ⟨hu.1, hu.2.drawn _⟩)
                    obtain ⟨I', hS2, hblk⟩ := Sim.bornAs (t := et) (mu := mu) (c := (((List.range (len * i.size)).map fun k => (c'[p.off + off * i.size + k]?).getD undef).toArray ++ nl.toArray ++ Builtin.zeroCells z.cells (grownCap w (len + ys.length) cap et - (len + ys.length))))
                      (hkill.drawn (w.drawn + 1)) hn' (fun e he => (List.mem_append.1 he).elim (hlenD e) (hcl' e)) (fun k j e cx he hcx => by
                        obtain ⟨u, hu, hr⟩ := hrow k j e cx he hcx
                        refine ⟨u, ?_, hr⟩
                        rw [← hu, ← Array.getElem?_toList]
                        simp) hfD
                    refine lands_value (exec (by rw [hu1]; exact hrun)) hS2 ?_
                    have := Rep.own (I := I') (w := ({ w with drawn := w.drawn + 1 } : World).alloc (.cells (((List.range (len * i.size)).map fun k => (c'[p.off + off * i.size + k]?).getD undef).toArray ++ nl.toArray ++ Builtin.zeroCells z.cells (grownCap w (len + ys.length) cap et - (len + ys.length))) et))
                      (updP γ nid ⟨w.heap.size, 0, i.size⟩) nid 0 (len + ys.length) (grownCap w (len + ys.length) cap et) ⟨w.heap.size, 0, i.size⟩ _ et (by simp [updP]) (grownCap_ge _ _ _ _) hblk (by
                        have := grownCap_ge w (len + ys.length) cap et
                        simp only [Array.size_append, size_zeroCells, hzs, List.size_toArray, hs.len, List.length_map, List.length_range]
                        have e : grownCap w (len + ys.length) cap et * i.size = len * i.size + ys.length * i.size + (grownCap w (len + ys.length) cap et - (len + ys.length)) * i.size := by
                          rw [← Nat.add_mul, ← Nat.add_mul]; congr 1; omega
                        simp
                        omega)
                    simpa using this
            · cases h
          · cases h
        · rename_i hv
          split at h
          · rename_i hcond
            obtain ⟨hby, h63, hcl, hfz⟩ := hcond
            simp only [Option.some.injEq, Prod.mk.injEq] at h
            obtain ⟨rfl, rfl⟩ := h
            rw [putH_one]
            rw [hv] at hx
            generalize hu1 : a.eval x = u1 at hx
            cases hx
            exact fresh hu1 hby h63 hcl hfz hS hn
          · cases h
        · rename_i hv
          split at h
          · rename_i hcond
            obtain ⟨hby, h63, hcl, hfz⟩ := hcond
            simp only [Option.some.injEq, Prod.mk.injEq] at h
            obtain ⟨rfl, rfl⟩ := h
            rw [putH_one]
            rw [hv] at hx
            exact fresh hx.sc_eq hby h63 hcl hfz hS hn
          · cases h
        · cases h
      · cases h
    · cases h
  · cases h

end
end Go.Idl
