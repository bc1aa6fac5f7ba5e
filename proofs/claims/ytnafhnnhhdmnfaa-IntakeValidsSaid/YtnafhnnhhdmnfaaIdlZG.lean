/-
  Loops whose rounds make objects of their own: what a round made is let go at its end. Loops over lists.
-/
import Derived.Test.YtnafhnnhhdmnfaaIdlZF
namespace Go.Idl
set_option linter.all false
open Go.RowKit

/-- Objects, listed; no others were made. -/
def objsL : List Obj → Heap
  | [], _ => .unborn
  | x :: _, 0 => x
  | _ :: O, n + 1 => objsL O n
@[go_sem ↓] theorem objsL_nil (n : Nat) : objsL [] n = .unborn := nd rfl
@[go_sem ↓] theorem objsL_zero (x : Obj) (O : List Obj) : objsL (x :: O) 0 = x := nd rfl
@[go_sem ↓] theorem objsL_succ (x : Obj) (O : List Obj) (n : Nat) : objsL (x :: O) (n + 1) = objsL O n := nd rfl

/-- Names no object from m on. -/
def V.lowA (m : Nat) : V → Bool
  | .any => true
  | .sc _ => true
  | .slice _ _ => true
  | .mt => true
  | .own id _ _ => decide (id < m)
  | .ref id _ _ => decide (id < m)
  | .mapr id => decide (id < m)
  | .mapf _ _ => true
  | .elem _ _ => true
  | _ => false
def V.lowC (m : Nat) : V → Bool
  | .fn _ xs ys => xs.all (V.lowA m) && ys.all (V.lowA m)
  | v => v.lowA m
def V.low (m : Nat) : V → Bool
  | .agg cs => cs.all (V.lowC m)
  | v => v.lowC m
def Ext.low (m : Nat) : Ext → Bool
  | .iter _ _ => true
  | .map _ vs => vs.all (V.low m)
def Obj.low (m : Nat) : Obj → Bool
  | .live _ es _ => es.all (V.low m)
  | .ext x => x.low m
  | _ => true

def cutP (γ : Places) (m : Nat) : Places := fun id => if id < m then γ id else none

variable {C : Ctx} {γ : Places} {I : Imm} {τ : Nat → V} {H : Heap} {tm : Array Value} {w : World}

theorem Rep.lowA {m : Nat} {x : V} {u : Value} (h : Rep I w γ x u) (hl : x.lowA m = true) : Rep I w (cutP γ m) x u := by
  cases h with
  | any => exact .any _ _
  | sc => exact .sc _ _
  | agg => simp [V.lowA] at hl
  | nilslice => exact .nilslice _ _ _ _
  | slice _ _ _ g o cap f hcap hsz hc h => exact .slice _ _ _ g o cap f hcap hsz hc h
  | own _ id off len cap p c t hp hcap hb hroom =>
    simp [V.lowA] at hl
    exact .own _ _ _ _ _ p c t (by simp [cutP, hl, hp]) hcap hb hroom
  | own0 => exact .own0 _ _ _ _
  | mt => exact .mt _ _
  | mapf _ ks vs r clock ents hI hr hl' hk h => exact .mapf _ _ _ _ _ _ hI hr hl' hk h
  | mapr _ id p hp => simp [V.lowA] at hl; exact .mapr _ _ p (by simp [cutP, hl, hp])
  | ref _ id idx off p hp => simp [V.lowA] at hl; exact .ref _ _ _ _ p (by simp [cutP, hl, hp])
  | elem _ e off g o f hc h => exact .elem _ _ _ _ _ f hc h
  | tup => simp [V.lowA] at hl
  | iface => simp [V.lowA] at hl
  | fn => simp [V.lowA] at hl
theorem Rep.lowC {m : Nat} {x : V} {u : Value} (h : Rep I w γ x u) (hl : x.lowC m = true) : Rep I w (cutP γ m) x u := by
  cases x with
  | fn f xs ys =>
    simp only [V.lowC, Bool.and_eq_true, List.all_eq_true] at hl
    cases h with
    | fn _ _ _ _ us vs e1 e2 e3 e4 =>
      exact .fn _ _ _ _ us vs e1 e2 (fun j c u hc hu => (e3 j c u hc hu).lowA (hl.1 c (List.mem_of_getElem? hc))) fun j c u hc hu => (e4 j c u hc hu).lowA (hl.2 c (List.mem_of_getElem? hc))
  | _ => exact h.lowA (by simpa [V.lowC] using hl)
theorem Rep.low {m : Nat} {x : V} {u : Value} (h : Rep I w γ x u) (hl : x.low m = true) : Rep I w (cutP γ m) x u := by
  cases x with
  | agg cs =>
    simp only [V.low, List.all_eq_true] at hl
    cases h with
    | agg _ _ vs hlen hh => exact .agg _ _ _ hlen fun j c u hc hu => (hh j c u hc hu).lowC (hl c (List.mem_of_getElem? hc))
  | _ => exact h.lowC (by simpa [V.low] using hl)
theorem low_cell {m : Nat} {e x : V} (h : e.low m = true) {j : Nat} (hj : e.cells[j]? = some x) : x.lowC m = true := by
  cases e with
  | agg cs =>
    simp only [V.low, List.all_eq_true] at h
    exact h x (List.mem_of_getElem? hj)
  | _ =>
    simp only [V.cells] at hj
    cases j with
    | zero => simp at hj; subst hj; simpa [V.low] using h
    | succ j => simp at hj

/-- The frames that wait name no object from m on. -/
def LowC (C : Ctx) (m : Nat) : Prop := ∀ fr, fr ∈ C.keep → ∀ t, (fr.1 t).low m = true
/-- What was made from m on is let go. -/
theorem Sim.cut (h : Sim C γ I τ H tm w) {m : Nat} (hlow : LowC C m) {τ' : Nat → V} {H' : Heap} (hτ : ∀ t, τ' t = .any ∨ (τ' t = τ t ∧ (τ t).low m = true)) (h1 : ∀ id, id < m → H' id = H id ∧ (H id).low m = true) (h2 : ∀ id, m ≤ id → H' id = .unborn) :
    Sim C (cutP γ m) I τ' H' tm w where
  below := h.below
  imm0 := h.imm0
  immB := h.immB
  immS := h.immS
  kept := fun fr hf t => (h.kept fr hf t).low (hlow fr hf t)
  tmp := fun t => by
    rcases hτ t with e | ⟨e, hl⟩
    · rw [e]; exact .any _ _
    · rw [e]; exact (h.tmp t).low hl
  dom := fun id p hp => by
    unfold cutP at hp
    split at hp
    · rename_i hlt
      rw [(h1 id hlt).1]
      exact h.dom id p hp
    · cases hp
  obj := fun id sz es mu hl => by
    have hlt : id < m := by
      rcases Nat.lt_or_ge id m with h | h
      · exact h
      · rw [h2 id h] at hl; cases hl
    obtain ⟨e1, e2⟩ := h1 id hlt
    rw [e1] at hl
    rw [hl] at e2
    simp only [Obj.low, List.all_eq_true] at e2
    rcases h.obj id sz es mu hl with ⟨g1, g2⟩ | ⟨p, c, t, ha⟩
    · exact .inl ⟨g1, by simp [cutP, g2]⟩
    · refine .inr ⟨p, c, t, ⟨by simp [cutP, hlt, ha.place], ha.size, ha.blk, ha.len, fun i j e x he hx => ?_, ha.mutb, ha.fix⟩⟩
      obtain ⟨u, hu, hr⟩ := ha.cell i j e x he hx
      exact ⟨u, hu, hr.lowC (low_cell (e2 e (List.mem_of_getElem? he)) hx)⟩
  ext := fun id x hl => by
    have hlt : id < m := by
      rcases Nat.lt_or_ge id m with h | h
      · exact h
      · rw [h2 id h] at hl; cases hl
    obtain ⟨e1, e2⟩ := h1 id hlt
    rw [e1] at hl
    rw [hl] at e2
    obtain ⟨p, g1, g2, o, g3, g4⟩ := h.ext id x hl
    refine ⟨p, by simp [cutP, hlt, g1], g2, o, g3, ?_⟩
    cases x with
    | iter s pos => exact g4
    | map ks vs =>
      obtain ⟨ents, clock, k1, k2, k3, k4, k5⟩ := g4
      simp only [Obj.low, Ext.low, List.all_eq_true] at e2
      exact ⟨ents, clock, k1, k2, k3, k4, fun j x e hx he => (k5 j x e hx he).low (e2 x (List.mem_of_getElem? hx))⟩
  inj := fun id id' p p' hl hl' hp hp' hb => by
    unfold cutP at hp hp'
    split at hp
    · rename_i a
      split at hp'
      · rename_i a'
        rw [(h1 id a).1] at hl
        rw [(h1 id' a').1] at hl'
        exact h.inj id id' p p' hl hl' hp hp' hb
      · cases hp'
    · cases hp

theorem LowC.top (T : Top) (m : Nat) : LowC T.ctx m := fun fr hf => by cases hf

/-- The objects stand so, and name none beyond. -/
def holdsO (H : Heap) (m : Nat) : Nat → List Obj → Prop
  | _, [] => True
  | k, x :: O => (H k = x ∧ x.low m = true) ∧ holdsO H m (k + 1) O
@[go_sem ↓] theorem holdsO_nil (H : Heap) (m k : Nat) : holdsO H m k [] = True := nd rfl
@[go_sem ↓] theorem holdsO_cons (H : Heap) (m k : Nat) (x : Obj) (O : List Obj) : holdsO H m k (x :: O) = ((H k = x ∧ x.low m = true) ∧ holdsO H m (k + 1) O) := nd rfl
/-- The slots stand so, and name no object beyond. -/
def holdsM (τ : Nat → V) (m : Nat) : List (Nat × V) → Prop
  | [] => True
  | (k, v) :: L => (τ k = v ∧ v.low m = true) ∧ holdsM τ m L
@[go_sem ↓] theorem holdsM_nil (τ : Nat → V) (m : Nat) : holdsM τ m [] = True := nd rfl
@[go_sem ↓] theorem holdsM_cons (τ : Nat → V) (m k : Nat) (v : V) (L : List (Nat × V)) : holdsM τ m ((k, v) :: L) = ((τ k = v ∧ v.low m = true) ∧ holdsM τ m L) := nd rfl

theorem slotsM_of {τ : Nat → V} {m : Nat} : ∀ {L : List (Nat × V)}, holdsM τ m L → ∀ t, slotsL L t = .any ∨ (slotsL L t = τ t ∧ (τ t).low m = true)
  | [], _, t => .inl rfl
  | (k, v) :: L, h, t => by
    rw [slotsL_cons]
    by_cases e : t = k
    · subst e; rw [if_pos rfl]; exact .inr ⟨h.1.1.symm, by rw [h.1.1]; exact h.1.2⟩
    · rw [if_neg e]; exact slotsM_of h.2 t
theorem objs_of {H : Heap} {m : Nat} : ∀ {O : List Obj} {k : Nat}, holdsO H m k O → ∀ i, i < O.length → objsL O i = H (k + i) ∧ (H (k + i)).low m = true
  | [], k, _, i, hi => by simp at hi
  | x :: O, k, h, i, hi => by
    cases i with
    | zero => exact ⟨h.1.1.symm, by show (H k).low m = true; rw [h.1.1]; exact h.1.2⟩
    | succ i =>
      have := objs_of h.2 i (by simpa using hi)
      rw [show k + 1 + i = k + (i + 1) by omega] at this
      exact this
theorem objsL_out : ∀ {O : List Obj} {i : Nat}, O.length ≤ i → objsL O i = .unborn
  | [], _, _ => rfl
  | x :: O, 0, h => by simp at h
  | x :: O, i + 1, h => objsL_out (O := O) (by simpa using h)

/-- BACK TO A STATE THAT IS LISTED. -/
theorem LeF.back {C : Ctx} {τ : Nat → V} {H : Heap} {n : Nat} {L : List (Nat × V)} {O : List Obj} {m : Nat} (hm : m = O.length) (h : holdsM τ m L ∧ holdsO H m 0 O) (hlow : LowC C m := by first | exact LowC.top _ _ | assumption) : LeF C ⟨τ, H, n⟩ ⟨slotsL L, objsL O, m⟩ := by
  subst hm
  rintro a w ⟨γ, I, hS⟩
  refine ⟨_, I, hS.cut (m := O.length) hlow (slotsM_of h.1) (fun id hid => ?_) fun id hid => objsL_out hid⟩
  have := objs_of h.2 id hid
  simpa using this
attribute [go_sem] V.low V.lowC V.lowA Obj.low Ext.low decide_true

section
variable {P : Program} {Φ : Specs} {N : Nat} {K : List Nat}
/-- The next element's head. -/
def againL (C : Ctx) {α A : Type} (st : Nat → A → SF) (inv : List α → A → Prop) (i : Nat) (xs : List α) (s' : SF) : Prop := ∃ a', inv xs a' ∧ LeF C s' (st (i + 1) a')
def roundL (C : Ctx) {α A : Type} (st : Nat → A → SF) (inv : List α → A → Prop) (i : Nat) (xs : List α) (Q : Exit → SF → Prop) : Exit → SF → Prop := andThenF (againL C st inv i xs) Q
@[go_sem ↓] theorem roundL_normal {α A : Type} (st : Nat → A → SF) (inv : List α → A → Prop) (i : Nat) (xs : List α) (Q : Exit → SF → Prop) (s : SF) : roundL C st inv i xs Q .normal s = againL C st inv i xs s := nd rfl
@[go_sem ↓] theorem roundL_exit {α A : Type} (st : Nat → A → SF) (inv : List α → A → Prop) (i : Nat) (xs : List α) (Q : Exit → SF → Prop) (id : Nat) (s : SF) : roundL C st inv i xs Q (.exit id) s = Q (.exit id) s := nd rfl
@[go_sem ↓] theorem roundL_ret {α A : Type} (st : Nat → A → SF) (inv : List α → A → Prop) (i : Nat) (xs : List α) (Q : Exit → SF → Prop) (s : SF) : roundL C st inv i xs Q .ret s = Q .ret s := nd rfl

/-- There is no next round. -/
def doneR (Q : Exit → SF → Prop) : Exit → SF → Prop := andThenF (fun _ => False) Q
@[go_sem ↓] theorem doneR_normal (Q : Exit → SF → Prop) (s : SF) : doneR Q .normal s = False := nd rfl
@[go_sem ↓] theorem doneR_exit (Q : Exit → SF → Prop) (id : Nat) (s : SF) : doneR Q (.exit id) s = Q (.exit id) s := nd rfl
@[go_sem ↓] theorem doneR_ret (Q : Exit → SF → Prop) (s : SF) : doneR Q .ret s = Q .ret s := nd rfl

/-- A LOOP OVER A LIST, one element a round; what is left is in the invariant. -/
theorem TriI.loopL (hg : Good P Φ) (K : List Nat) {b : IC} {s : SF} {Q : Exit → SF → Prop} {α A : Type} (l : List α) (st : Nat → A → SF) (inv : List α → A → Prop) (a0 : A) (h0 : LeF C s (st 0 a0)) (hi : inv l a0)
    (done : ∀ a, inv [] a → walkI P Φ C N K b (st l.length a) (contI P Φ C N K (doneR Q) []))
    (round : ∀ i a x xs, l.drop i = x :: xs → i < l.length → l[i]? = some x → inv (x :: xs) a → walkI P Φ C N K b (st i a) (contI P Φ C N K (roundL C st inv i xs Q) [])) : TriI P C N (.loop b) s Q := by
  refine TriI.loopA hg K (fun p : Nat × A => st p.1 p.2) (fun p => p.1 ≤ l.length ∧ inv (l.drop p.1) p.2) (fun p => l.length - p.1) (0, a0) h0 ⟨by omega, by simpa using hi⟩ ?_
  rintro ⟨i, a⟩ ⟨hle, hinv⟩
  dsimp only at hle hinv ⊢
  by_cases hlt : i < l.length
  · have hd : l.drop i = l[i] :: l.drop (i + 1) := by rw [List.drop_eq_getElem_cons hlt]
    have := round i a l[i] (l.drop (i + 1)) hd hlt (by simp) (by rw [← hd]; exact hinv)
    refine walkI_mono ?_ this
    intro e s' hh
    cases e with
    | normal =>
      obtain ⟨a', h1, h2⟩ := hh
      exact ⟨(i + 1, a'), by dsimp only; omega, ⟨by dsimp only; omega, h1⟩, h2⟩
    | _ => exact hh
  · have e : i = l.length := by omega
    subst e
    rw [List.drop_length] at hinv
    refine walkI_mono ?_ (done a hinv)
    intro e s' hh
    cases e with
    | normal => exact hh.elim
    | _ => exact hh
end

/-! ### Slices that are built -/
@[go_sem ↓] theorem chunks_zero (ag : Bool) (sz : Nat) (cs : List V) : chunks ag sz cs 0 = [] := nd rfl
@[go_sem ↓] theorem chunks_f (sz n : Nat) (c : V) (cs : List V) : chunks false sz (c :: cs) (n + 1) = c :: chunks false sz ((c :: cs).drop sz) n := nd rfl
@[go_sem ↓] theorem chunks_t (sz n : Nat) (cs : List V) : chunks true sz cs (n + 1) = .agg (cs.take sz) :: chunks true sz (cs.drop sz) n := nd rfl
attribute [go_sem] V.isF V.isFc bne_self_eq_false

/-! ### Bytes of a string -/
theorem bytes_len (s : ByteArray) : s.data.toList.length = s.size := rfl
theorem bytes_get {s : ByteArray} {i : Nat} {b : UInt8} (h : s.data.toList[i]? = some b) : s.get! i = b := by
  have hi : i < s.data.toList.length := (List.getElem?_eq_some_iff.1 h).1
  rw [List.getElem?_eq_getElem hi] at h
  simp only [ByteArray.get!]
  rw [getElem!_pos s.data i (by simpa using hi)]
  simpa using h
theorem wrap_nat {i n : Nat} (h : i < n) (hn : n ≤ 9223372036854775807) : IntKind.i64.wrap ((i : Int) + 1) = ((i + 1 : Nat) : Int) := by rw [IntKind.wrap_i64]; omega
theorem lt_dec {i n : Nat} (h : i < n) : decide ((i : Int) < (n : Int)) = true := by simp; omega

end Go.Idl
