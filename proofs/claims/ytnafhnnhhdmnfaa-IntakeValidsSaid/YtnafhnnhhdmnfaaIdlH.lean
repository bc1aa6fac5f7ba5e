/-
  What is handed on is fixed: a slice of the call's own becomes a slice with its contents; calls by contract.
-/
import Derived.Test.YtnafhnnhhdmnfaaIdlG
namespace Go.Idl
set_option linter.all false
open Go.RowKit

variable {P : Program} {C : Ctx} {γ : Places} {I : Imm} {τ : Nat → V} {H : Heap} {w : World} {a : Act} {o : Oper} {v : V} {tm : Array Value}

theorem Sim.reborn (h : Sim C γ I τ H tm w) {id : Nat} (hg : γ id = none) (sz : Nat) (mu : Bool) : Sim C γ I τ (updH H id (.live sz [] mu)) tm w where
  below := h.below
  imm0 := h.imm0
  immB := h.immB
  immS := h.immS
  tmp := h.tmp
  kept := h.kept
  dom := fun x q hq => by
    have := h.dom x q hq
    refine ⟨?_, this.2⟩
    unfold updH
    by_cases e : x = id
    · simp [e]
    · simp [e]; exact this.1
  obj := fun x sz' es' mu' hl => by
    unfold updH at hl
    by_cases e : x = id
    · subst e
      simp at hl
      obtain ⟨rfl, rfl, rfl⟩ := hl
      exact .inl ⟨rfl, hg⟩
    · simp [e] at hl; exact h.obj x sz' es' mu' hl
  ext := fun x y hx => by
    unfold updH at hx
    by_cases e : x = id
    · simp [e] at hx
    · simp [e] at hx; exact h.ext x y hx
  inj := fun x y q q' h1 h2 hq hq' hblk => by
    unfold updH at h1 h2
    by_cases e : x = id
    · subst e; rw [hg] at hq; cases hq
    · by_cases e' : y = id
      · subst e'; rw [hg] at hq'; cases hq'
      · simp [e] at h1; simp [e'] at h2
        exact h.inj x y q q' h1 h2 hq hq' hblk

theorem Sim.freezeOne (h : Sim C γ I τ H tm w) {id sz : Nat} {es : List V} (hl : H id = .live sz es true) (hf : es.all V.isF = true) :
    ∃ I', (∀ g x, I g x → I' g x) ∧ Sim C γ I' τ (updH H id (.live sz es false)) tm w := by
  rcases h.obj id sz es true hl with ⟨rfl, hg⟩ | ⟨p, c, t, ho⟩
  · exact ⟨I, fun _ _ h => h, h.reborn hg sz false⟩
  · have hlive : (H id).isLive := by rw [hl]; trivial
    have hidle := h.idle hlive ho.place
    have hd := h.dom id p ho.place
    have k1 := (h.kill id).fixCells (I' := fun g x => I g x ∨ (g = p.blk ∧ p.off ≤ x ∧ x < p.off + es.length * sz)) (fun _ _ h => .inl h)
      (fun g x hx => by
        rcases hx with hx | ⟨rfl, _, _⟩
        · exact .inl hx
        · exact .inr ⟨hd.2.1, hd.2.2, hidle⟩)
    refine ⟨fun g x => I g x ∨ (g = p.blk ∧ p.off ≤ x ∧ x < p.off + es.length * sz), fun _ _ h => .inl h, ?_⟩
    have hr : Pres I w w := Pres.refl I w
    have k2 := k1.revive (id := id) (sz := sz) (es := es) (mu := false) (p := p) (c := c) (t := t) (by rw [updH_updH]; exact hidle)
      ⟨ho.place, ho.size, ho.blk, ho.len, fun i j e x he hx => (ho.cell i j e x he hx).imp fun u hu => ⟨hu.1, hu.2.mono hr (fun _ _ h => .inl h) fun _ _ h => h⟩, by simp, fun _ => ⟨fun y hy => by
        rcases hy with hy | ⟨_, _, hy⟩
        · exact absurd hy (ho.mutb rfl y)
        · exact hy, fun i j hi hj => .inr ⟨rfl, by omega, by
          have h1 : i + 1 ≤ es.length := hi
          have h2 := Nat.mul_le_mul_right sz h1
          rw [Nat.add_mul] at h2
          omega⟩, hf⟩⟩
    rw [updH_updH] at k2
    exact k2

theorem putH_cons (H : Heap) (id : Nat) (x : Obj) (δ : List (Nat × Obj)) : putH H ((id, x) :: δ) = putH (updH H id x) δ := rfl

/-- The objects of a list are fixed, one by one. -/
theorem Sim.froze (h : Heap) (ids : List Nat) : ∀ {I : Imm} {H : Heap}, Sim C γ I τ H tm w → (∀ id sz es, h id = .live sz es true → ∃ mu, H id = .live sz es mu) →
    (∃ I', (∀ g x, I g x → I' g x) ∧ Sim C γ I' τ (putH H (froze h ids)) tm w) ∧
    ∀ id sz es mu, H id = .live sz es mu → (mu = false ∨ (id ∈ ids ∧ h id = .live sz es true ∧ es.all V.isF = true)) → (putH H (Idl.froze h ids)) id = .live sz es false := by
  induction ids with
  | nil =>
    intro I H hS _
    refine ⟨⟨I, fun _ _ h => h, hS⟩, fun id sz es mu hl hm => ?_⟩
    rcases hm with rfl | ⟨hm, _⟩
    · exact hl
    · cases hm
  | cons x ids ih =>
    intro I H hS hh
    by_cases hx : ∃ sz es, h x = .live sz es true ∧ es.all V.isF = true
    · obtain ⟨sz, es, hx, hf⟩ := hx
      have e : Idl.froze h (x :: ids) = (x, .live sz es false) :: Idl.froze h ids := by
        unfold Idl.froze
        rw [List.filterMap_cons_some (b := (x, .live sz es false)) (by rw [hx]; simp only [hf, if_true])]
      rw [e, putH_cons]
      obtain ⟨mu, hmu⟩ := hh x sz es hx
      obtain ⟨I1, hI1, hS1⟩ : ∃ I', (∀ g x, I g x → I' g x) ∧ Sim C γ I' τ (updH H x (.live sz es false)) tm w := by
        cases mu with
        | true => exact hS.freezeOne hmu hf
        | false =>
          refine ⟨I, fun _ _ h => h, ?_⟩
          have : updH H x (.live sz es false) = H := by
            funext y
            unfold updH
            by_cases e : y = x
            · subst e; simp [hmu]
            · simp [e]
          rw [this]
          exact hS
      have hh1 : ∀ id sz' es', h id = .live sz' es' true → ∃ mu, updH H x (.live sz es false) id = .live sz' es' mu := by
        intro id sz' es' hid
        by_cases e : id = x
        · subst e
          rw [hx] at hid
          cases hid
          exact ⟨false, updH_same _ _ _⟩
        · rw [updH_ne e]; exact hh id sz' es' hid
      obtain ⟨⟨I2, hI2, hS2⟩, hlast⟩ := ih hS1 hh1
      refine ⟨⟨I2, fun g y hy => hI2 _ _ (hI1 _ _ hy), hS2⟩, fun id sz' es' mu' hl hm => ?_⟩
      by_cases e : id = x
      · subst e
        rw [hmu] at hl
        cases hl
        exact hlast id sz es false (updH_same _ _ _) (.inl rfl)
      · refine hlast id sz' es' mu' (by rw [updH_ne e]; exact hl) ?_
        rcases hm with hm | ⟨hm, h2⟩
        · exact .inl hm
        · refine .inr ⟨?_, h2⟩
          rcases List.mem_cons.1 hm with hm | hm
          · exact absurd hm e
          · exact hm
    · have e : Idl.froze h (x :: ids) = Idl.froze h ids := by
        unfold Idl.froze
        rw [List.filterMap_cons]
        split
        · rfl
        · rename_i b hb
          split at hb
          · rename_i sz es hlx
            split at hb
            · rename_i hf
              exact absurd ⟨sz, es, hlx, hf⟩ hx
            · cases hb
          · cases hb
      rw [e]
      obtain ⟨h1, h2⟩ := ih hS hh
      refine ⟨h1, fun id sz es mu hl hm => h2 id sz es mu hl ?_⟩
      rcases hm with hm | ⟨hm, h3⟩
      · exact .inl hm
      · rcases List.mem_cons.1 hm with hm | hm
        · subst hm
          exact absurd ⟨sz, es, h3⟩ hx
        · exact .inr ⟨hm, h3⟩

/-- A slice of the call's own whose elements are fixed reads as a slice with its contents. -/
theorem own_frozen (hS : Sim C γ I τ H tm w) {id off len sz : Nat} {es : List V} (hl : H id = .live sz es false) (hle : off + len ≤ es.length) {u : Value} (hr : Rep I w γ (.own id off len) u) :
    Rep I w noPlaces (.slice sz ((es.drop off).take len)) u := by
  cases hr with
  | own0 _ _ _ A => simp; exact .nilslice _ _ _ _
  | own _ _ _ _ cap p c t hp hcap hb hroom =>
    rcases hS.obj id sz es false hl with ⟨_, hg⟩ | ⟨q, c', t', ho⟩
    · rw [hg] at hp; cases hp
    · rw [ho.place] at hp
      cases hp
      have hlen : ((es.drop off).take len).length = len := by simp; omega
      obtain ⟨f1, f2, f3⟩ := ho.fix rfl
      have key := Rep.slice (I := I) (w := w) noPlaces sz ((es.drop off).take len) p.blk (p.off + off * p.sz) cap (fun i j => (c'[p.off + (off + i) * sz + j]?).getD undef) (by omega)
        (fun e he => ho.len e (List.mem_of_mem_drop (List.mem_of_mem_take he)))
        (fun i j hi hj => by
          rw [hlen] at hi
          have hio : off + i < es.length := by omega
          have hjl : j < (es[off + i]).cells.length := by rw [ho.len _ (List.getElem_mem hio)]; exact hj
          have hcell := ho.cell (off + i) j es[off + i] (es[off + i]).cells[j] (List.getElem?_eq_getElem hio) (List.getElem?_eq_getElem hjl)
          obtain ⟨y, hy, _⟩ := hcell
          have e : p.off + off * p.sz + i * sz + j = p.off + (off + i) * sz + j := by rw [ho.size, Nat.add_mul]; omega
          rw [e]
          refine ⟨f2 _ _ hio hj, ?_⟩
          rw [cell_blk ho.blk, hy]
          rfl)
        (fun i j e x he hx => by
          rw [List.getElem?_take] at he
          split at he
          · rw [List.getElem?_drop] at he
            obtain ⟨y, hy, hr⟩ := ho.cell _ _ _ _ he hx
            simp only [hy, Option.getD_some]
            refine hr.frozen (isF_cell ?_ hx)
            rw [List.all_eq_true] at f3
            exact f3 e (List.mem_of_getElem? he)
          · cases he)
      rw [hlen] at key
      exact key

theorem freezeC_rep (hS : Sim C γ I τ H tm w) {h : Heap} (hh : ∀ id sz es mu, h id = .live sz es mu → es.all V.isF = true → H id = .live sz es false) {x y : V} {u : Value}
    (hf : freezeC h x = some y) (hr : Rep I w γ x u) : Rep I w noPlaces y u := by
  cases x with
  | own id off len =>
    simp only [freezeC] at hf
    split at hf
    · rename_i sz es mu hl
      split at hf
      · rename_i hc
        cases hf
        exact own_frozen hS (hh id sz es mu hl hc.2) hc.1 hr
      · cases hf
    · cases hf
  | any => simp [freezeC] at hf; subst hf; exact .any _ _
  | sc => simp [freezeC] at hf; subst hf; cases hr; exact .sc _ _
  | slice =>
    simp [freezeC] at hf; subst hf
    cases hr with
    | nilslice => exact .nilslice _ _ _ _
    | slice _ _ _ _ _ _ f h1 h2 h3 h4 => exact .slice _ _ _ _ _ _ f h1 h2 h3 h4
  | elem =>
    simp [freezeC] at hf; subst hf
    cases hr with
    | elem _ _ _ _ _ f h1 h2 => exact .elem _ _ _ _ _ f h1 h2
  | mt => simp [freezeC] at hf; subst hf; cases hr; exact .mt _ _
  | _ => simp [freezeC] at hf

theorem freezeL_get {h : Heap} : ∀ {xs ys : List V}, freezeL h xs = some ys → xs.length = ys.length ∧ ∀ (j : Nat) (y : V), ys[j]? = some y → ∃ x, xs[j]? = some x ∧ freezeC h x = some y
  | [], ys, hf => by simp [freezeL] at hf; subst hf; simp
  | x :: xs, ys, hf => by
    simp only [freezeL] at hf
    split at hf
    · rename_i y ys' h1 h2
      cases hf
      obtain ⟨i1, i2⟩ := freezeL_get h2
      refine ⟨by simp [i1], fun j z hj => ?_⟩
      cases j with
      | zero => simp at hj; subst hj; exact ⟨x, rfl, h1⟩
      | succ j => simpa using i2 j z (by simpa using hj)
    · cases hf
theorem freezes_get {h : Heap} : ∀ {xs ys : List V}, freezes h xs = some ys → xs.length = ys.length ∧ ∀ (j : Nat) (y : V), ys[j]? = some y → ∃ x, xs[j]? = some x ∧ freeze h x = some y
  | [], ys, hf => by simp [freezes] at hf; subst hf; simp
  | x :: xs, ys, hf => by
    simp only [freezes] at hf
    split at hf
    · rename_i y ys' h1 h2
      cases hf
      obtain ⟨i1, i2⟩ := freezes_get h2
      refine ⟨by simp [i1], fun j z hj => ?_⟩
      cases j with
      | zero => simp at hj; subst hj; exact ⟨x, rfl, h1⟩
      | succ j => simpa using i2 j z (by simpa using hj)
    · cases hf

theorem freeze_rep (hS : Sim C γ I τ H tm w) {h : Heap} (hh : ∀ id sz es mu, h id = .live sz es mu → es.all V.isF = true → H id = .live sz es false) {x y : V} {u : Value}
    (hf : freeze h x = some y) (hr : Rep I w γ x u) : Rep I w noPlaces y u := by
  cases x with
  | agg cs =>
    simp only [freeze, Option.map_eq_some_iff] at hf
    obtain ⟨ys, hys, rfl⟩ := hf
    obtain ⟨h1, h2⟩ := freezeL_get hys
    cases hr with
    | agg _ _ vs hl hh' =>
      refine .agg _ _ _ (by omega) fun j c z hc hz => ?_
      obtain ⟨x, hx, hfx⟩ := h2 j c hc
      exact freezeC_rep hS hh hfx (hh' j x z hx hz)
  | _ => exact freezeC_rep hS hh (by simpa only [freeze] using hf) hr

/-- An object that is no row is laid where no other living one lies. -/
theorem Sim.reviveExt (h : Sim C γ I τ H tm w) {id : Nat} {x : Ext} {p : Place} (hi : Idle γ (updH H id .dead) p.blk) (ho : ExtAt γ I w id x p) : Sim C γ I τ (updH H id (.ext x)) tm w where
  below := h.below
  imm0 := h.imm0
  immB := h.immB
  immS := h.immS
  tmp := h.tmp
  kept := h.kept
  dom := fun y q hq => by
    have := h.dom y q hq
    refine ⟨?_, this.2⟩
    unfold updH
    by_cases e : y = id
    · simp [e]
    · simp [e]; exact this.1
  obj := fun y sz' es' mu' hl => by
    unfold updH at hl
    by_cases e : y = id
    · simp [e] at hl
    · simp [e] at hl; exact h.obj y sz' es' mu' hl
  ext := fun y z hz => by
    unfold updH at hz
    by_cases e : y = id
    · subst e; simp at hz; subst hz; exact ⟨p, ho⟩
    · simp [e] at hz; exact h.ext y z hz
  inj := fun y z q q' h1 h2 hq hq' hblk => by
    have hpl := ho.1
    have live : ∀ z, z ≠ id → (updH H id (.ext x) z).isLive → (updH H id .dead z).isLive := fun z hz hh => by
      unfold updH at hh ⊢
      simp [hz] at hh ⊢
      exact hh
    by_cases e : y = id
    · by_cases e' : z = id
      · rw [e, e']
      · subst e
        rw [hpl] at hq
        cases hq
        exact absurd hblk.symm (hi z q' (live z e' h2) hq')
    · by_cases e' : z = id
      · subst e'
        rw [hpl] at hq'
        cases hq'
        exact absurd hblk (hi y q (live y e h1) hq)
      · unfold updH at h1 h2
        simp [e] at h1; simp [e'] at h2
        exact h.inj y z q q' h1 h2 hq hq' hblk

/-- A new object that is no row. -/
theorem Sim.bornExt (h : Sim C γ I τ H tm w) {nid : Nat} (hn : H nid = .unborn) {x : Ext} {o : Go.Obj} (hx : ∀ γ' w', (∀ id p, γ id = some p → γ' id = some p) → Pres I w w' → ExtRep γ' I w' x o) :
    Sim C (updP γ nid ⟨w.heap.size, 0, 0⟩) I τ (updH H nid (.ext x)) tm (w.alloc o) := by
  have hb : Below w.heap.size w (w.alloc o) := (Below.refl _ _).alloc (Nat.le_refl _) _
  have hsize : (w.alloc o).heap.size = w.heap.size + 1 := by
    show (w.heap.push _).size = _
    simp
  have hnew : (w.alloc o).heap[w.heap.size]? = some o := by
    show (w.heap.push _)[w.heap.size]? = _
    simp
  have k1 := h.grow hb (I' := I) (fun _ _ h => h) fun _ _ h => .inl h
  have k2 := k1.place hn (p := ⟨w.heap.size, 0, 0⟩) h.below.size (by simp [hsize])
  have hγn : γ nid = none := by
    rcases hg : γ nid with _ | p
    · rfl
    · exact absurd hn (h.dom nid p hg).1
  have hγ : ∀ id q, γ id = some q → updP γ nid ⟨w.heap.size, 0, 0⟩ id = some q := fun id q hp => by
    unfold updP
    by_cases e : id = nid
    · subst e; rw [hγn] at hp; cases hp
    · simp [e, hp]
  have hp : Pres I w (w.alloc o) := ⟨fun g x hx => hb.cell (p := ⟨g, x, none⟩) (h.immS g x hx), fun g c t hg => by
    refine ⟨c, ?_, rfl⟩
    rw [hb.block g ?_]
    · exact hg
    · rcases Nat.lt_or_ge g w.heap.size with hlt | hge
      · exact hlt
      · rw [Array.getElem?_eq_none hge] at hg; simp at hg, fun g es n hx hg => (hb.block g (h.immS g 0 hx)).trans hg⟩
  have k3 := k2.reviveExt (id := nid) (x := x) (p := ⟨w.heap.size, 0, 0⟩) (by
    intro y q hy hq hblk
    rw [updH_updH] at hy
    by_cases e : y = nid
    · subst e; rw [updH_same] at hy; exact hy
    · unfold updP at hq
      simp [e] at hq
      have := (h.dom y q hq).2.2
      simp at hblk
      omega) ⟨by simp [updP], ⟨rfl, fun y hy => by have := h.immS _ _ hy; simp at this⟩, o, hnew, hx _ _ hγ hp⟩
  rw [updH_updH] at k3
  exact k3

/-- An object that is no row is set. -/
theorem Sim.setExt (h : Sim C γ I τ H tm w) {id : Nat} {x x' : Ext} (hl : H id = .ext x) {p : Place} (hat : ExtAt γ I w id x p) {o : Go.Obj}
    (hc : ∀ c t, w.heap[p.blk]? ≠ some (.cells c t (0, 0))) (hx : ∀ w', Pres I w w' → ExtRep γ I w' x' o) :
    Sim C γ I τ (updH H id (.ext x')) tm { w with heap := w.heap.setIfInBounds p.blk o } := by
  have hlive : (H id).isLive := by rw [hl]; trivial
  have hidle := h.idle hlive hat.1
  have hd := h.dom id p hat.1
  have hfar : ∀ k, k ≠ p.blk → (w.heap.setIfInBounds p.blk o)[k]? = w.heap[k]? := fun k hk => by rw [Array.getElem?_setIfInBounds_ne (fun e => hk e.symm)]
  have hnew : (w.heap.setIfInBounds p.blk o)[p.blk]? = some o := by simp [hd.2.2]
  have hp : Pres I w { w with heap := w.heap.setIfInBounds p.blk o } := ⟨fun g y hy => by
      by_cases e : g = p.blk
      · subst e; exact absurd hy (hat.2.1.2 y)
      · simp [World.cell?, hfar g e], fun g c t hg => by
      by_cases e : g = p.blk
      · subst e; exact absurd hg (hc c t)
      · exact ⟨c, (hfar g e).trans hg, rfl⟩, fun g es n hy hg => by
      by_cases e : g = p.blk
      · subst e; exact absurd hy (hat.2.1.2 0)
      · exact (hfar g e).trans hg⟩
  have k1 := h.kill id
  have k2 : Sim C γ I τ (updH H id .dead) tm { w with heap := w.heap.setIfInBounds p.blk o } := {
    below := k1.below.trans ⟨rfl, rfl, rfl, by simp, fun k hk => hfar k (by omega)⟩
    imm0 := k1.imm0
    immB := k1.immB
    immS := fun g y hy => by simpa using k1.immS g y hy
    tmp := fun t => (k1.tmp t).mono hp (fun _ _ h => h) fun _ _ h => h
    kept := fun fr hf t => (k1.kept fr hf t).mono hp (fun _ _ h => h) fun _ _ h => h
    dom := fun y q hq => by simpa using k1.dom y q hq
    obj := fun y sz es mu hy => by
      rcases k1.obj y sz es mu hy with h0 | ⟨q, c, t, ho⟩
      · exact .inl h0
      · exact .inr ⟨q, c, t, ho.mono hp (fun _ _ h => h) (fun _ _ h => h) (hfar _ (hidle y q (by rw [hy]; trivial) ho.place)) fun _ h => h⟩
    ext := fun y z hy => (k1.ext y z hy).imp fun q ho => ho.mono hp (fun _ _ h => h) (fun _ _ h => h) (hfar _ (hidle y q (by rw [hy]; trivial) ho.1)) fun _ h => h
    inj := k1.inj }
  have k3 := k2.reviveExt (id := id) (x := x') (p := p) (by rw [updH_updH]; exact hidle) ⟨hat.1, hat.2.1, o, hnew, hx _ hp⟩
  rw [updH_updH] at k3
  exact k3

/-- The contracts that the evaluator is given are met. -/
def Met (P : Program) (Φ : Specs) : Prop := ∀ f F, Φ f = some F → ∃ g, (∀ args w, (callFunc f args).run P w = .ok (.enter g args) w) ∧ Contract P g F

section
variable (hS : Sim C γ I τ H a.tmps w)
include hS

theorem lands_range {t : TypeId} {x : Operand} (ho : o.op = .range t x) (ht : strT P t = true) {s : ByteArray} (hx : opd τ x = .sc (.string s)) {nid : Nat} (hn : H nid = .unborn) :
    Lands C P o a w τ (updH H nid (.ext (.iter s 0))) (.ref nid 0 0) := by
  have hr := rep_opd hS x
  rw [hx] at hr
  have hu := hr.sc_eq
  have hut : P.underlying t = some .string := by
    unfold strT at ht
    split at ht
    · assumption
    · cases ht
  have hb := hS.bornExt hn (x := .iter s 0) (o := .stringIter s 0) (fun _ _ _ _ => rfl)
  refine lands_value (u := .pointer (some ⟨w.heap.size, 0, none⟩)) ?_ hb ?_
  · simp [execOp, ho, Instr.range, run_underlying hut, hu]
  · have := Rep.ref (I := I) (w := w.alloc (.stringIter s 0)) (updP γ nid ⟨w.heap.size, 0, 0⟩) nid 0 0 ⟨w.heap.size, 0, 0⟩ (by simp [updP])
    simpa using this

theorem lands_next {it : Operand} (ho : o.op = .next it true) {id : Nat} (hx : opd τ it = .ref id 0 0) {s : ByteArray} {pos : Nat} (hl : H id = .ext (.iter s pos)) :
    (pos < s.size → Lands C P o a w τ (updH H id (.ext (.iter s (pos + (Utf8.decode s pos).2)))) (.tup [.sc (.bool true), .sc (.int .i64 pos), .sc (.int .i32 (Utf8.decode s pos).1)])) ∧
    (¬ pos < s.size → Lands C P o a w τ H (.tup [.sc (.bool false)])) := by
  have hr := rep_opd hS it
  rw [hx] at hr
  obtain ⟨p, hat⟩ := hS.ext id _ hl
  obtain ⟨h1, ⟨h2, h3⟩, ob, h4, h5⟩ := hat
  have h5' : ob = .stringIter s pos := h5
  subst h5'
  generalize hu : a.eval it = u at hr
  cases hr with
  | ref _ _ _ _ q hq =>
    rw [h1] at hq
    cases hq
    simp only [h2, Nat.zero_mul, Nat.add_zero] at hu
    have three : ∀ (x y z : Value), Rep I ({ w with heap := w.heap.setIfInBounds p.blk (.stringIter s (pos + (Utf8.decode s pos).2)) } : World) γ (.tup [.sc x, .sc y, .sc z]) (.tuple #[x, y, z]) := by
      intro x y z
      refine .tup _ _ _ (by simp) fun j c u hc hu => ?_
      match j with
      | 0 => simp at hc hu; subst hc hu; exact .sc _ _
      | 1 => simp at hc hu; subst hc hu; exact .sc _ _
      | 2 => simp at hc hu; subst hc hu; exact .sc _ _
      | j + 3 => simp at hc
    refine ⟨fun hlt => ?_, fun hge => ?_⟩
    · have hs := hS.setExt hl ⟨h1, ⟨h2, h3⟩, _, h4, rfl⟩ (x' := .iter s (pos + (Utf8.decode s pos).2)) (o := .stringIter s (pos + (Utf8.decode s pos).2)) (by rw [h4]; simp) (fun _ _ => rfl)
      refine lands_value ?_ hs (three _ _ _)
      simp [execOp, ho, Instr.next, hu, getObj, setObj, Sem.run, h4, hlt, goInt]
    · refine lands_value (u := .tuple #[.bool false]) (w' := w) ?_ hS ?_
      · simp [execOp, ho, Instr.next, hu, getObj, Sem.run, h4, hge]
      · refine .tup _ _ _ (by simp) fun j c u hc hu => ?_
        match j with
        | 0 => simp at hc hu; subst hc hu; exact .sc _ _
        | j + 1 => simp at hc

theorem args_froze {h : Heap} {ids : List Nat} (hle : ∀ x sz es mu, h x = .live sz es mu → H x = .live sz es mu) (hin : ∀ x sz es mu, h x = .live sz es mu → x ∈ ids) :
    ∃ I', (∀ g x, I g x → I' g x) ∧ Sim C γ I' τ (putH H (froze h ids)) a.tmps w ∧ ∀ id sz es mu, h id = .live sz es mu → es.all V.isF = true → (putH H (froze h ids)) id = .live sz es false := by
  obtain ⟨⟨I', hI', hS'⟩, hlast⟩ := Sim.froze h ids hS (fun id sz es hl => ⟨true, hle _ _ _ _ hl⟩)
  refine ⟨I', hI', hS', fun id sz es mu hl hf => hlast id sz es mu (hle _ _ _ _ hl) ?_⟩
  cases mu with
  | false => exact .inl rfl
  | true => exact .inr ⟨hin _ _ _ _ hl, hl, hf⟩

theorem lands_call {Φ : Specs} (hΦ : Met P Φ) {c : Call} {f : FuncId} (ho : o.op = .call c) (hc : c.callee = .value (.func f)) {δ : List (Nat × Obj)}
    (h : evCall Φ (opd τ) (only (c.args.toList.flatMap fun x => (opd τ x).ids) H) f c.args.toList = some (v, δ)) : Lands C P o a w τ (putH H δ) v := by
  unfold evCall at h
  cases hF : Φ f with
  | none => simp [hF] at h
  | some F =>
    simp only [hF, Option.bind_some] at h
    cases hfr : freezes (only (c.args.toList.flatMap fun x => (opd τ x).ids) H) (c.args.toList.map (opd τ)) with
    | none => simp [hfr] at h
    | some ys =>
      simp only [hfr, Option.bind_some, Option.map_eq_some_iff] at h
      obtain ⟨r, hr, he⟩ := h
      simp only [Prod.mk.injEq] at he
      obtain ⟨rfl, rfl⟩ := he
      obtain ⟨g, hent, hcon⟩ := hΦ f F hF
      obtain ⟨I1, hI1, hS1, hfix⟩ := args_froze hS (h := only (c.args.toList.flatMap fun x => (opd τ x).ids) H) (ids := (c.args.toList.map (opd τ)).flatMap V.ids)
        (fun x sz es mu hl => only_live hl) (fun x sz es mu hl => by
          unfold only at hl
          split at hl
          · rename_i hm
            simp only [List.flatMap_map]
            simpa using hm
          · cases hl)
      obtain ⟨hlen, hget⟩ := freezes_get hfr
      have hcalls := hcon I1 w (c.args.map a.eval) ys r (by simp at hlen ⊢; omega) (fun j x u hx hu => by
          obtain ⟨x0, hx0, hfz⟩ := hget j x hx
          simp at hx0 hu
          obtain ⟨q, hq, rfl⟩ := hx0
          obtain ⟨q', hq', rfl⟩ := hu
          rw [hq] at hq'
          cases hq'
          exact freeze_rep hS1 hfix hfz (rep_opd hS1 q)) hS1.immS hr
      intro K Q hK
      unfold Oper.wp
      have hrun : (execOp a.eval o).run P w = .ok (.enter g (c.args.map a.eval)) w := by
        simp [execOp, ho, resolve, hc, Act.eval, Deferred.ofValue, invoke, hent]
      rw [hrun]
      refine hcalls.mono fun e w' hh => ?_
      obtain ⟨u, rfl, hb, hrep⟩ := hh
      exact hK u w' γ _ (hS1.grow hb (fun _ _ h => .inl h) fun _ _ h => h) (hrep.mono (Pres.refl _ _) (fun _ _ h => h) (by simp [noPlaces]))

omit hS in
theorem putH_append (H : Heap) (d e : List (Nat × Obj)) : putH H (d ++ e) = putH (putH H d) e := by
  induction d generalizing H with
  | nil => rfl
  | cons p d ih => simp only [List.cons_append, putH]; exact ih _
omit hS in
theorem froze_unborn {h H : Heap} (hle : ∀ x sz es mu, h x = .live sz es mu → H x = .live sz es mu) (ids : List Nat) {nid : Nat} (h0 : H nid = .unborn) : putH H (froze h ids) nid = .unborn := by
  have key : ∀ (d : List (Nat × Obj)) (H : Heap), (∀ p ∈ d, p.1 ≠ nid) → H nid = .unborn → putH H d nid = .unborn := by
    intro d
    induction d with
    | nil => intro H _ h; exact h
    | cons p d ih =>
      intro H hd h
      simp only [putH]
      refine ih _ (fun q hq => hd q (List.mem_cons_of_mem _ hq)) ?_
      rw [if_neg (fun e => hd p (List.mem_cons_self ..) e.symm)]
      exact h
  refine key _ H (fun p hp e => ?_) h0
  unfold froze at hp
  obtain ⟨id, _, hid⟩ := List.mem_filterMap.1 hp
  split at hid
  · rename_i sz es hl
    split at hid
    · cases hid
      have := hle _ _ _ _ hl
      simp only at e
      rw [e, h0] at this
      cases this
    · cases hid
  · cases hid

theorem lands_bsl {t : TypeId} {len : Nat} {parts : Array (Nat × Operand)} (ho : o.op = .buildSlice t len parts) {nid : Nat} {δ : List (Nat × Obj)} {ids : List Nat}
    (hids : ids = nid :: (parts.toList.map fun p => (p.1, opd τ p.2)).flatMap fun p => p.2.ids)
    (h : evBsl P nid (only ids H) t len (parts.toList.map fun p => (p.1, opd τ p.2)) = some (v, δ)) : Lands C P o a w τ (putH H δ) v := by
  unfold evBsl at h
  cases hb : evBuildSlice P nid (only ids H) t len ((parts.toList.map fun p => (p.1, opd τ p.2)).map fun p => (p.1, frz1 (only ids H) p.2)) with
  | none => rw [hb] at h; cases h
  | some r =>
    obtain ⟨v', δ'⟩ := r
    rw [hb] at h
    simp only [addD, Option.some.injEq, Prod.mk.injEq] at h
    obtain ⟨rfl, rfl⟩ := h
    have hle : ∀ x sz es mu, only ids H x = .live sz es mu → H x = .live sz es mu := fun x sz es mu hl => only_live hl
    have hun : only ids H nid = .unborn := by
      unfold evBuildSlice at hb
      split at hb
      · rename_i h0 _; exact h0
      · cases hb
    obtain ⟨I1, hI1, hS1, hfix⟩ := args_froze hS (h := only ids H) (ids := (parts.toList.map fun p => (p.1, opd τ p.2)).flatMap fun p => p.2.ids)
      hle (fun x sz es mu hl => by
        have hl' := hl
        unfold only at hl
        split at hl
        · rename_i hm
          rw [hids] at hm
          simp only [List.contains_iff_mem, List.mem_cons] at hm
          rcases hm with rfl | hm
          · rw [hun] at hl'; cases hl'
          · exact hm
        · cases hl)
    rw [putH_append]
    refine lands_buildSlice hS1 ho (H0 := only ids H) (fun h0 => froze_unborn hle _ (only_unborn h0)) (by simp) (fun k i x i' u h1 h2 => ?_) hb
    simp only [List.getElem?_map, Option.map_eq_some_iff, List.map_map] at h1
    obtain ⟨p, hp, he⟩ := h1
    simp only [Function.comp, Prod.mk.injEq] at he
    obtain ⟨rfl, rfl⟩ := he
    obtain ⟨q1, q2⟩ := parts_rep hS1 parts k p.1 (opd τ p.2) i' u (by simp only [List.getElem?_map, hp, Option.map_some]) h2
    refine ⟨q1, ?_⟩
    unfold frz1
    cases hf : freeze (only ids H) (opd τ p.2) with
    | none => exact q2
    | some y => exact (freeze_rep hS1 hfix hf q2).mono (Pres.refl _ _) (fun _ _ h => h) (by simp [noPlaces])

end
end Go.Idl
