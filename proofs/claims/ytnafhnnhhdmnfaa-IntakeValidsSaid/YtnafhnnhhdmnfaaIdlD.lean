/-
  Small steps of the relation: an object is let go, a block is written, an object is laid in a block, cells are fixed.
-/
import Derived.Test.YtnafhnnhhdmnfaaIdlC
namespace Go.Idl
set_option linter.all false
open Go.RowKit

variable {C : Ctx} {γ : Places} {I : Imm} {τ : Nat → V} {H : Heap} {tm : Array Value} {w : World}

/-- No object that is alive lies in the block. -/
def Idle (γ : Places) (H : Heap) (g : Nat) : Prop := ∀ id p, (H id).isLive → γ id = some p → p.blk ≠ g

theorem Sim.kill (h : Sim C γ I τ H tm w) (id : Nat) : Sim C γ I τ (updH H id .dead) tm w where
  below := h.below
  imm0 := h.imm0
  immB := h.immB
  immS := h.immS
  tmp := h.tmp
  kept := h.kept
  dom := fun x p hp => by
    have := h.dom x p hp
    refine ⟨?_, this.2⟩
    unfold updH
    by_cases e : x = id
    · simp [e]
    · simp [e]; exact this.1
  obj := fun x sz es mu hl => by
    unfold updH at hl
    by_cases e : x = id
    · simp [e] at hl
    · simp [e] at hl; exact h.obj x sz es mu hl
  ext := fun x y hx => by
    unfold updH at hx
    by_cases e : x = id
    · simp [e] at hx
    · simp [e] at hx; exact h.ext x y hx
  inj := fun x y p p' h1 h2 hp hp' hblk => by
    unfold updH at h1 h2
    by_cases e : x = id
    · simp [e, Obj.isLive] at h1
    · by_cases e' : y = id
      · simp [e', Obj.isLive] at h2
      · simp [e] at h1; simp [e'] at h2; exact h.inj x y p p' h1 h2 hp hp' hblk

theorem Sim.idle (h : Sim C γ I τ H tm w) {id : Nat} {p : Place} (hl : (H id).isLive) (hp : γ id = some p) : Idle γ (updH H id .dead) p.blk := by
  intro x q hx hq hblk
  unfold updH at hx
  by_cases e : x = id
  · simp [e, Obj.isLive] at hx
  · simp [e] at hx
    exact e (h.inj x id q p hx hl hq hp hblk)

/-- A block of the call's own, in which no living object lies, is written where no cell is fixed. -/
theorem Sim.touch (h : Sim C γ I τ H tm w) {g : Nat} {c c' : Array Value} {t : TypeId} {w' : World} (hB : C.w0.heap.size ≤ g) (hi : Idle γ H g)
    (hg : w.heap[g]? = some (.cells c t (0, 0))) (hg' : w'.heap[g]? = some (.cells c' t (0, 0))) (hsz : c'.size = c.size)
    (hI : ∀ y, I g y → c'[y]? = c[y]?) (hfar : ∀ k, k ≠ g → w'.heap[k]? = w.heap[k]?) (hs : w'.heap.size = w.heap.size)
    (hos : w'.os = w.os) (htape : w'.tape = w.tape) (hout : w'.output = w.output) : Sim C γ I τ H tm w' := by
  have hp : Pres I w w' := ⟨fun g' x hx => by
      by_cases e : g' = g
      · subst e
        simp [World.cell?, hg, hg', hI x hx]
      · simp [World.cell?, hfar g' e], fun g' c0 t0 h0 => by
      by_cases e : g' = g
      · subst e
        rw [hg] at h0
        cases h0
        exact ⟨c', hg', hsz⟩
      · exact ⟨c0, (hfar g' e).trans h0, rfl⟩, fun g' es n hx h0 => by
      by_cases e : g' = g
      · subst e; rw [hg] at h0; cases h0
      · exact (hfar g' e).trans h0⟩
  exact {
    below := h.below.trans ⟨hos, htape, hout, by omega, fun k hk => hfar k (by omega)⟩
    imm0 := h.imm0
    immB := h.immB
    immS := fun g x hx => by rw [hs]; exact h.immS g x hx
    tmp := fun t => (h.tmp t).mono hp (fun _ _ h => h) fun _ _ h => h
    kept := fun fr hf t => (h.kept fr hf t).mono hp (fun _ _ h => h) fun _ _ h => h
    dom := fun id p hd => by rw [hs]; exact h.dom id p hd
    obj := fun id sz es mu hl => by
      rcases h.obj id sz es mu hl with h0 | ⟨p, c0, t0, ho⟩
      · exact .inl h0
      · exact .inr ⟨p, c0, t0, ho.mono hp (fun _ _ h => h) (fun _ _ h => h) (hfar _ (hi id p (by rw [hl]; trivial) ho.place)) fun _ h => h⟩
    ext := fun id x hx => (h.ext id x hx).imp fun p ho => ho.mono hp (fun _ _ h => h) (fun _ _ h => h) (hfar _ (hi id p (by rw [hx]; trivial) ho.1)) fun _ h => h
    inj := h.inj }

/-- A name that is not yet used is given a place. -/
theorem Sim.place (h : Sim C γ I τ H tm w) {nid : Nat} (hn : H nid = .unborn) {p : Place} (hB : C.w0.heap.size ≤ p.blk) (hlt : p.blk < w.heap.size) :
    Sim C (updP γ nid p) I τ (updH H nid .dead) tm w := by
  have hγn : γ nid = none := by
    rcases hg : γ nid with _ | p
    · rfl
    · exact absurd hn (h.dom nid p hg).1
  have hγ : ∀ id q, γ id = some q → updP γ nid p id = some q := fun id q hp => by
    unfold updP
    by_cases e : id = nid
    · subst e; rw [hγn] at hp; cases hp
    · simp [e, hp]
  have hr := Pres.refl I w
  exact {
    below := h.below
    imm0 := h.imm0
    immB := h.immB
    immS := h.immS
    tmp := fun t => (h.tmp t).mono hr (fun _ _ h => h) hγ
    kept := fun fr hf t => (h.kept fr hf t).mono hr (fun _ _ h => h) hγ
    dom := fun id q hd => by
      unfold updP at hd
      by_cases e : id = nid
      · subst e
        simp at hd
        subst hd
        exact ⟨by simp [updH], hB, hlt⟩
      · simp [e] at hd
        have := h.dom id q hd
        exact ⟨by simp [updH, e]; exact this.1, this.2⟩
    obj := fun id sz es mu hl => by
      unfold updH at hl
      by_cases e : id = nid
      · simp [e] at hl
      · simp [e] at hl
        rcases h.obj id sz es mu hl with h0 | ⟨q, c, t, ho⟩
        · exact .inl ⟨h0.1, by simp [updP, e, h0.2]⟩
        · exact .inr ⟨q, c, t, ho.mono hr (fun _ _ h => h) hγ rfl fun _ h => h⟩
    ext := fun id x hx => by
      unfold updH at hx
      by_cases e : id = nid
      · simp [e] at hx
      · simp [e] at hx
        exact (h.ext id x hx).imp fun p ho => ho.mono hr (fun _ _ h => h) hγ rfl fun _ h => h
    inj := fun id id' q q' h1 h2 hp1 hp2 hblk => by
      unfold updH at h1 h2
      unfold updP at hp1 hp2
      by_cases e : id = nid
      · simp [e, Obj.isLive] at h1
      · by_cases e' : id' = nid
        · simp [e', Obj.isLive] at h2
        · simp [e] at h1 hp1; simp [e'] at h2 hp2; exact h.inj id id' q q' h1 h2 hp1 hp2 hblk }

/-- An object is laid where no other living one lies. -/
theorem Sim.revive (h : Sim C γ I τ H tm w) {id sz : Nat} {es : List V} {mu : Bool} {p : Place} {c : Array Value} {t : TypeId}
    (hi : Idle γ (updH H id .dead) p.blk) (ho : ObjAt γ I w id sz es mu p c t) : Sim C γ I τ (updH H id (.live sz es mu)) tm w where
  below := h.below
  imm0 := h.imm0
  immB := h.immB
  immS := h.immS
  tmp := h.tmp
  kept := h.kept
  dom := fun x q hq => by
    have := h.dom x q hq
    refine ⟨?_, this.2⟩
    unfold updH
    by_cases e : x = id
    · simp [e]
    · simp [e]; exact this.1
  obj := fun x sz' es' mu' hl => by
    unfold updH at hl
    by_cases e : x = id
    · subst e
      simp at hl
      obtain ⟨rfl, rfl, rfl⟩ := hl
      exact .inr ⟨p, c, t, ho⟩
    · simp [e] at hl; exact h.obj x sz' es' mu' hl
  ext := fun x y hx => by
    unfold updH at hx
    by_cases e : x = id
    · simp [e] at hx
    · simp [e] at hx; exact h.ext x y hx
  inj := fun x y q q' h1 h2 hq hq' hblk => by
    have hpl := ho.place
    have live : ∀ z, z ≠ id → (updH H id (.live sz es mu) z).isLive → (updH H id .dead z).isLive := fun z hz hh => by
      unfold updH at hh ⊢
      simp [hz] at hh ⊢
      exact hh
    by_cases e : x = id
    · by_cases e' : y = id
      · rw [e, e']
      · subst e
        rw [hpl] at hq
        cases hq
        exact absurd hblk.symm (hi y q' (live y e' h2) hq')
    · by_cases e' : y = id
      · subst e'
        rw [hpl] at hq'
        cases hq'
        exact absurd hblk (hi x q (live x e h1) hq)
      · unfold updH at h1 h2
        simp [e] at h1; simp [e'] at h2
        exact h.inj x y q q' h1 h2 hq hq' hblk

/-- An object without elements that lies nowhere. -/
theorem Sim.bornNil (h : Sim C γ I τ H tm w) {nid : Nat} (hn : H nid = .unborn) (sz : Nat) (mu : Bool) : Sim C γ I τ (updH H nid (.live sz [] mu)) tm w := by
  have hγn : γ nid = none := by
    rcases hg : γ nid with _ | p
    · rfl
    · exact absurd hn (h.dom nid p hg).1
  exact {
    below := h.below
    imm0 := h.imm0
    immB := h.immB
    immS := h.immS
    tmp := h.tmp
    kept := h.kept
    dom := fun x q hq => by
      have := h.dom x q hq
      refine ⟨?_, this.2⟩
      unfold updH
      by_cases e : x = nid
      · simp [e]
      · simp [e]; exact this.1
    obj := fun x sz' es' mu' hl => by
      unfold updH at hl
      by_cases e : x = nid
      · subst e
        simp at hl
        obtain ⟨rfl, rfl, rfl⟩ := hl
        exact .inl ⟨rfl, hγn⟩
      · simp [e] at hl; exact h.obj x sz' es' mu' hl
    ext := fun x y hx => by
      unfold updH at hx
      by_cases e : x = nid
      · simp [e] at hx
      · simp [e] at hx; exact h.ext x y hx
    inj := fun x y q q' h1 h2 hq hq' hblk => by
      unfold updH at h1 h2
      by_cases e : x = nid
      · subst e; rw [hγn] at hq; cases hq
      · by_cases e' : y = nid
        · subst e'; rw [hγn] at hq'; cases hq'
        · simp [e] at h1; simp [e'] at h2
          exact h.inj x y q q' h1 h2 hq hq' hblk }

/-- More cells are fixed, in blocks of the call's own in which no living object lies. -/
theorem Sim.fixCells (h : Sim C γ I τ H tm w) {I' : Imm} (hI : ∀ g x, I g x → I' g x)
    (hI' : ∀ g x, I' g x → I g x ∨ (C.w0.heap.size ≤ g ∧ g < w.heap.size ∧ Idle γ H g)) : Sim C γ I' τ H tm w := by
  have hr : Pres I w w := Pres.refl I w
  exact {
    below := h.below
    imm0 := fun g x hx => hI _ _ (h.imm0 g x hx)
    immB := fun g x hx => (hI' g x hx).elim (h.immB g x) fun hg => .inr hg.1
    immS := fun g x hx => (hI' g x hx).elim (h.immS g x) fun hg => hg.2.1
    tmp := fun t => (h.tmp t).mono hr hI fun _ _ h => h
    kept := fun fr hf t => (h.kept fr hf t).mono hr hI fun _ _ h => h
    dom := h.dom
    obj := fun id sz es mu hl => by
      rcases h.obj id sz es mu hl with h0 | ⟨p, c, t, ho⟩
      · exact .inl h0
      · exact .inr ⟨p, c, t, ho.mono hr hI (fun _ _ h => h) rfl fun y hy => (hI' _ _ hy).elim (fun h => h) fun hg => absurd rfl (hg.2.2 id p (by rw [hl]; trivial) ho.place)⟩
    ext := fun id x hx => (h.ext id x hx).imp fun p ho => ho.mono hr hI (fun _ _ h => h) rfl fun y hy => (hI' _ _ hy).elim (fun h => h) fun hg => absurd rfl (hg.2.2 id p (by rw [hx]; trivial) ho.1)
    inj := h.inj }

theorem updH_updH (H : Heap) (id : Nat) (x y : Obj) : updH (updH H id x) id y = updH H id y := by
  funext z
  unfold updH
  by_cases e : z = id <;> simp [e]

theorem Rep.frozen {x : V} {v : Value} (h : Rep I w γ x v) (hf : x.isFc = true) : Rep I w noPlaces x v := by
  cases h with
  | sc => exact .sc _ _
  | nilslice => exact .nilslice _ _ _ _
  | slice _ _ _ _ _ _ f h1 h2 h3 h4 => exact .slice _ _ _ _ _ _ f h1 h2 h3 h4
  | mt => exact .mt _ _
  | _ => simp [V.isFc] at hf

theorem isF_cell {e x : V} (h : e.isF = true) {j : Nat} (hj : e.cells[j]? = some x) : x.isFc = true := by
  have hm := List.mem_of_getElem? hj
  cases e <;> simp only [V.cells, List.mem_singleton] at hm <;> first
    | (subst hm; exact h)
    | (simp only [V.isF, List.all_eq_true] at h; exact h x hm)

end Go.Idl
