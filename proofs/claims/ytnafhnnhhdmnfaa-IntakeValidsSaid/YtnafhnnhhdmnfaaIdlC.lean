/-
  The relation between an ideal state and a state of the model, and what the steps of the model's memory do to it.
-/
import Derived.Test.YtnafhnnhhdmnfaaIdlB
namespace Go.Idl
set_option linter.all false
open Go.RowKit

structure Ctx where
  I0 : Imm
  w0 : World
  /-- Slots of the frames that wait. -/
  keep : List ((Nat → V) × Array Value)

structure ObjAt (γ : Places) (I : Imm) (w : World) (id sz : Nat) (es : List V) (mu : Bool) (p : Place) (c : Array Value) (t : TypeId) : Prop where
  place : γ id = some p
  size : p.sz = sz
  blk : w.heap[p.blk]? = some (.cells c t (0, 0))
  len : ∀ e, e ∈ es → e.cells.length = sz
  cell : ∀ (i j : Nat) (e x : V), es[i]? = some e → e.cells[j]? = some x → ∃ u, c[p.off + i * sz + j]? = some u ∧ Rep I w γ x u
  mutb : mu = true → ∀ y, ¬ I p.blk y
  fix : mu = false → (∀ y, I p.blk y → y < p.off + es.length * sz) ∧ (∀ i j, i < es.length → j < sz → I p.blk (p.off + i * sz + j)) ∧ es.all V.isF = true

def ObjRep (γ : Places) (I : Imm) (w : World) (id sz : Nat) (es : List V) (mu : Bool) : Prop :=
  (es = [] ∧ γ id = none) ∨ ∃ p c t, ObjAt γ I w id sz es mu p c t

/-- Objects that are no rows of cells. -/
def ExtRep (γ : Places) (I : Imm) (w : World) : Ext → Go.Obj → Prop
  | .iter s pos, o => o = .stringIter s pos
  | .map ks vs, o => ∃ (ents : Array MapEntry) (clock : Nat), o = .map ents clock ∧ ks.length = vs.length ∧ ents.toList.map (·.key) = ks ∧ (∀ e, e ∈ ents → e.born < clock) ∧
      ∀ (j : Nat) (x : V) (e : MapEntry), vs[j]? = some x → ents[j]? = some e → Rep I w γ x e.val

def ExtAt (γ : Places) (I : Imm) (w : World) (id : Nat) (x : Ext) (p : Place) : Prop :=
  γ id = some p ∧ (p.off = 0 ∧ ∀ y, ¬ I p.blk y) ∧ ∃ o, w.heap[p.blk]? = some o ∧ ExtRep γ I w x o

theorem ExtAt.mono {γ γ' : Places} {I I' : Imm} {w w' : World} {id : Nat} {x : Ext} {p : Place} (h : ExtAt γ I w id x p)
    (hp : Pres I w w') (hI : ∀ g x, I g x → I' g x) (hγ : ∀ id p, γ id = some p → γ' id = some p) (hb : w'.heap[p.blk]? = w.heap[p.blk]?)
    (hI' : ∀ y, I' p.blk y → I p.blk y) : ExtAt γ' I' w' id x p := by
  obtain ⟨h1, h2, o, h3, h4⟩ := h
  refine ⟨hγ _ _ h1, ⟨h2.1, fun y hy => h2.2 y (hI' y hy)⟩, o, hb.trans h3, ?_⟩
  cases x with
  | iter s pos => exact h4
  | map ks vs =>
    obtain ⟨ents, clock, e1, e2, e3, e4, e5⟩ := h4
    exact ⟨ents, clock, e1, e2, e3, e4, fun j x e hx he => (e5 j x e hx he).mono hp hI hγ⟩

def Obj.isLive : Obj → Prop
  | .live _ _ _ => True
  | .ext _ => True
  | _ => False

structure Sim (C : Ctx) (γ : Places) (I : Imm) (τ : Nat → V) (H : Heap) (tm : Array Value) (w : World) : Prop where
  below : Below C.w0.heap.size C.w0 w
  imm0 : ∀ g x, C.I0 g x → I g x
  immB : ∀ g x, I g x → C.I0 g x ∨ C.w0.heap.size ≤ g
  immS : ∀ g x, I g x → g < w.heap.size
  tmp : ∀ t, Rep I w γ (τ t) (tm.getD t undef)
  kept : ∀ fr, fr ∈ C.keep → ∀ t, Rep I w γ (fr.1 t) (fr.2.getD t undef)
  dom : ∀ id p, γ id = some p → H id ≠ .unborn ∧ C.w0.heap.size ≤ p.blk ∧ p.blk < w.heap.size
  obj : ∀ id sz es mu, H id = .live sz es mu → ObjRep γ I w id sz es mu
  ext : ∀ id x, H id = .ext x → ∃ p, ExtAt γ I w id x p
  inj : ∀ id id' p p', (H id).isLive → (H id').isLive → γ id = some p → γ id' = some p' → p.blk = p'.blk → id = id'

variable {C : Ctx} {γ : Places} {I : Imm} {τ : Nat → V} {H : Heap} {tm : Array Value} {w : World}

theorem Sim.opd (h : Sim C γ I τ H tm w) (ds : List Deferred) (x : Operand) : Rep I w γ (Idl.opd τ x) ((⟨tm, ds⟩ : Act).eval x) := by
  cases x with
  | tmp t => exact h.tmp t
  | const v => exact Rep.ofV v
  | global g => exact .sc _ _
  | func f => exact .sc _ _

/-- A draw changes nothing that is looked at. -/
theorem Rep.drawn {x : V} {v : Value} (h : Rep I w γ x v) (n : Nat) : Rep I { w with drawn := n } γ x v :=
  h.mono (w' := { w with drawn := n }) ⟨fun _ _ _ => rfl, fun _ c _ h => ⟨c, h, rfl⟩, fun _ _ _ _ h => h⟩ (fun _ _ h => h) fun _ _ h => h

theorem Sim.drawn (h : Sim C γ I τ H tm w) (n : Nat) : Sim C γ I τ H tm { w with drawn := n } where
  below := ⟨h.below.os, h.below.tape, h.below.output, h.below.size, h.below.block⟩
  imm0 := h.imm0
  immB := h.immB
  immS := h.immS
  tmp := fun t => (h.tmp t).drawn n
  kept := fun fr hf t => (h.kept fr hf t).drawn n
  dom := h.dom
  obj := fun id sz es mu hl => by
    rcases h.obj id sz es mu hl with h0 | ⟨p, c, t, ho⟩
    · exact .inl h0
    · exact .inr ⟨p, c, t, ho.place, ho.size, ho.blk, ho.len, fun i j e x he hx => (ho.cell i j e x he hx).imp fun u hu => ⟨hu.1, hu.2.drawn n⟩, ho.mutb, ho.fix⟩
  ext := fun id x hx => (h.ext id x hx).imp fun p hp => hp.mono (w' := { w with drawn := n }) ⟨fun _ _ _ => rfl, fun _ c _ h => ⟨c, h, rfl⟩, fun _ _ _ _ h => h⟩ (fun _ _ h => h) (fun _ _ h => h) rfl fun _ h => h
  inj := h.inj

def updT (τ : Nat → V) (d : Nat) (v : V) : Nat → V := fun t => if t = d then v else τ t

theorem Sim.put (h : Sim C γ I τ H tm w) {v : V} {u : Value} (hr : Rep I w γ v u) {d : Nat} (hd : d < tm.size) :
    Sim C γ I (updT τ d v) H (tm.setIfInBounds d u) w where
  below := h.below
  imm0 := h.imm0
  immB := h.immB
  immS := h.immS
  kept := h.kept
  tmp := fun t => by
    unfold updT
    by_cases e : t = d
    · subst e
      simp [hd]
      exact hr
    · have := h.tmp t
      simp [e, Array.getElem?_setIfInBounds_ne (fun h => e h.symm)] at this ⊢
      exact this
  dom := h.dom
  obj := h.obj
  ext := h.ext
  inj := h.inj

/-- Less may be known. -/
theorem Sim.forget (h : Sim C γ I τ H tm w) {τ' : Nat → V} (hτ : ∀ t, τ' t = .any ∨ τ' t = τ t) : Sim C γ I τ' H tm w where
  below := h.below
  imm0 := h.imm0
  immB := h.immB
  immS := h.immS
  kept := h.kept
  tmp := fun t => by
    rcases hτ t with e | e <;> rw [e]
    · exact .any _ _
    · exact h.tmp t
  dom := h.dom
  obj := h.obj
  ext := h.ext
  inj := h.inj

theorem ObjAt.mono {id sz : Nat} {es : List V} {mu : Bool} {p : Place} {c : Array Value} {t : TypeId} (h : ObjAt γ I w id sz es mu p c t) {w' : World} {I' : Imm} {γ' : Places}
    (hp : Pres I w w') (hI : ∀ g x, I g x → I' g x) (hγ : ∀ id p, γ id = some p → γ' id = some p) (hb : w'.heap[p.blk]? = w.heap[p.blk]?)
    (hI' : ∀ y, I' p.blk y → I p.blk y) : ObjAt γ' I' w' id sz es mu p c t where
  place := hγ _ _ h.place
  size := h.size
  blk := hb.trans h.blk
  len := h.len
  cell := fun i j e x he hx => (h.cell i j e x he hx).imp fun u hu => ⟨hu.1, hu.2.mono hp hI hγ⟩
  mutb := fun hm y hy => h.mutb hm y (hI' y hy)
  fix := fun hm => ⟨fun y hy => (h.fix hm).1 y (hI' y hy), fun i j hi hj => hI _ _ ((h.fix hm).2.1 i j hi hj), (h.fix hm).2.2⟩

/-- THE WORLD GROWS: all that stood stands; of the blocks that are new nobody writes a cell (or nobody yet knows one). -/
theorem Sim.grow (h : Sim C γ I τ H tm w) {w' : World} (hb : Below w.heap.size w w') {I' : Imm} (hI : ∀ g x, I g x → I' g x)
    (hI' : ∀ g x, I' g x → I g x ∨ (w.heap.size ≤ g ∧ g < w'.heap.size)) : Sim C γ I' τ H tm w' := by
  have hsz := h.below.size
  have hp : Pres I w w' := ⟨fun g x hx => hb.cell (p := ⟨g, x, none⟩) (h.immS g x hx), fun g c t hg => by
    refine ⟨c, ?_, rfl⟩
    rw [hb.block g ?_]
    · exact hg
    · rcases Nat.lt_or_ge g w.heap.size with hlt | hge
      · exact hlt
      · rw [Array.getElem?_eq_none hge] at hg; simp at hg, fun g es n hx hg => (hb.block g (h.immS g 0 hx)).trans hg⟩
  exact {
    below := h.below.trans (hb.mono hsz)
    imm0 := fun g x hx => hI _ _ (h.imm0 g x hx)
    immB := fun g x hx => (hI' g x hx).elim (h.immB g x) fun hg => .inr (Nat.le_trans hsz hg.1)
    immS := fun g x hx => (hI' g x hx).elim (fun hg => Nat.lt_of_lt_of_le (h.immS g x hg) hb.size) fun hg => hg.2
    tmp := fun t => (h.tmp t).mono hp hI fun _ _ h => h
    kept := fun fr hf t => (h.kept fr hf t).mono hp hI fun _ _ h => h
    dom := fun id p hd => ⟨(h.dom id p hd).1, (h.dom id p hd).2.1, Nat.lt_of_lt_of_le (h.dom id p hd).2.2 hb.size⟩
    obj := fun id sz es mu hl => by
      rcases h.obj id sz es mu hl with h0 | ⟨p, c, t, ho⟩
      · exact .inl h0
      · have hlt := (h.dom id p ho.place).2.2
        exact .inr ⟨p, c, t, ho.mono hp hI (fun _ _ h => h) (hb.block _ hlt) fun y hy => (hI' _ _ hy).elim (fun h => h) fun hg => absurd hlt (by omega)⟩
    ext := fun id x hx => (h.ext id x hx).imp fun p ho => by
      have hlt := (h.dom id p ho.1).2.2
      exact ho.mono hp hI (fun _ _ h => h) (hb.block _ hlt) fun y hy => (hI' _ _ hy).elim (fun h => h) fun hg => absurd hlt (by omega)
    inj := h.inj }

def updH (H : Heap) (id : Nat) (x : Obj) : Heap := fun y => if y = id then x else H y
def updP (γ : Places) (id : Nat) (p : Place) : Places := fun y => if y = id then some p else γ y

theorem updH_same (H : Heap) (id : Nat) (x : Obj) : updH H id x id = x := by simp [updH]
theorem updH_ne {H : Heap} {id y : Nat} {x : Obj} (h : y ≠ id) : updH H id x y = H y := by simp [updH, h]

/-- A NEW OBJECT in a block that is new. -/
theorem Sim.born (h : Sim C γ I τ H tm w) {nid sz : Nat} {es : List V} {c : Array Value} {t : TypeId} (hn : H nid = .unborn)
    (hlen : ∀ e, e ∈ es → e.cells.length = sz)
    (hcell : ∀ (i j : Nat) (e x : V), es[i]? = some e → e.cells[j]? = some x → ∃ u, c[i * sz + j]? = some u ∧ Rep I w γ x u) :
    Sim C (updP γ nid ⟨w.heap.size, 0, sz⟩) I τ (updH H nid (.live sz es true)) tm (w.alloc (.cells c t)) ∧
      (w.alloc (.cells c t)).heap[w.heap.size]? = some (.cells c t (0, 0)) := by
  have hγn : γ nid = none := by
    rcases hg : γ nid with _ | p
    · rfl
    · exact absurd hn (h.dom nid p hg).1
  have hγ : ∀ id p, γ id = some p → updP γ nid ⟨w.heap.size, 0, sz⟩ id = some p := fun id p hp => by
    unfold updP
    by_cases e : id = nid
    · subst e; rw [hγn] at hp; cases hp
    · simp [e, hp]
  have hb : Below w.heap.size w (w.alloc (.cells c t)) := (Below.refl _ _).alloc (Nat.le_refl _) _
  have hnew : (w.alloc (.cells c t)).heap[w.heap.size]? = some (.cells c t (0, 0)) := by
    show (w.heap.push _)[w.heap.size]? = _
    simp
  have hg := h.grow hb (I' := I) (fun _ _ h => h) fun _ _ h => .inl h
  have hp : Pres I w (w.alloc (.cells c t)) := ⟨fun g x hx => hb.cell (p := ⟨g, x, none⟩) (h.immS g x hx), fun g c t hg => by
    refine ⟨c, ?_, rfl⟩
    rw [hb.block g ?_]
    · exact hg
    · rcases Nat.lt_or_ge g w.heap.size with hlt | hge
      · exact hlt
      · rw [Array.getElem?_eq_none hge] at hg; simp at hg, fun g es n hx hg => (hb.block g (h.immS g 0 hx)).trans hg⟩
  have hsize : (w.alloc (.cells c t)).heap.size = w.heap.size + 1 := by
    show (w.heap.push _).size = _
    simp
  refine ⟨{
    below := hg.below
    imm0 := hg.imm0
    immB := hg.immB
    immS := hg.immS
    tmp := fun t => (h.tmp t).mono hp (fun _ _ h => h) hγ
    kept := fun fr hf t => (h.kept fr hf t).mono hp (fun _ _ h => h) hγ
    dom := fun id p hd => by
      unfold updP at hd
      by_cases e : id = nid
      · subst e
        simp at hd
        subst hd
        refine ⟨by simp [updH], h.below.size, ?_⟩
        show w.heap.size < _
        omega
      · simp [e] at hd
        have := h.dom id p hd
        refine ⟨by simp [updH, e]; exact this.1, this.2.1, ?_⟩
        omega
    obj := fun id sz' es' mu hl => by
      unfold updH at hl
      by_cases e : id = nid
      · subst e
        simp at hl
        obtain ⟨rfl, rfl, rfl⟩ := hl
        refine .inr ⟨⟨w.heap.size, 0, sz⟩, c, t, by simp [updP], rfl, hnew, hlen, fun i j e x he hx => ?_, fun _ y hy => ?_, by simp⟩
        · obtain ⟨u, hu, hr⟩ := hcell i j e x he hx
          exact ⟨u, by simpa using hu, hr.mono hp (fun _ _ h => h) hγ⟩
        · have := h.immS _ _ hy
          simp at this
      · simp [e] at hl
        rcases h.obj id sz' es' mu hl with h0 | ⟨p, c', t', ho⟩
        · exact .inl ⟨h0.1, by simp [updP, e, h0.2]⟩
        · exact .inr ⟨p, c', t', ho.mono hp (fun _ _ h => h) hγ (hb.block _ (h.dom id p ho.place).2.2) fun _ h => h⟩
    ext := fun id x hx => by
      unfold updH at hx
      by_cases e : id = nid
      · simp [e] at hx
      · simp [e] at hx
        exact (h.ext id x hx).imp fun p ho => ho.mono hp (fun _ _ h => h) hγ (hb.block _ (h.dom id p ho.1).2.2) fun _ h => h
    inj := fun id id' p p' h1 h2 hp1 hp2 hblk => by
      unfold updP at hp1 hp2
      unfold updH at h1 h2
      by_cases e : id = nid <;> by_cases e' : id' = nid
      · rw [e, e']
      · subst e
        simp at hp1
        subst hp1
        simp [e'] at hp2
        have := (h.dom id' p' hp2).2.2
        simp at hblk
        omega
      · subst e'
        simp at hp2
        subst hp2
        simp [e] at hp1
        have := (h.dom id p hp1).2.2
        simp at hblk
        omega
      · simp [e] at hp1 h1
        simp [e'] at hp2 h2
        exact h.inj id id' p p' h1 h2 hp1 hp2 hblk }, hnew⟩

end Go.Idl
