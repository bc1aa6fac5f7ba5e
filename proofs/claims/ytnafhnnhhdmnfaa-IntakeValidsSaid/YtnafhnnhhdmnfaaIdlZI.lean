/-
  Back to a state that is listed, with the objects under new names; a slice that is nil stands as an object with no elements.
-/
import Derived.Test.YtnafhnnhhdmnfaaIdlZH
namespace Go.Idl
set_option linter.all false
open Go.RowKit

/-- What a new name stood for. -/
def V.bkA (f : Nat → Option (Option Nat)) : V → Option V
  | .own id off len => match f id with
    | some (some k) => some (.own k off len)
    | some none => if len = 0 then some (.sc (.slice none 0 0)) else none
    | none => none
  | .ref id idx off => match f id with
    | some (some k) => some (.ref k idx off)
    | _ => none
  | .mapr id => match f id with
    | some (some k) => some (.mapr k)
    | _ => none
  | .any => some .any
  | .sc v => some (.sc v)
  | .slice s es => some (.slice s es)
  | .mt => some .mt
  | .mapf ks vs => some (.mapf ks vs)
  | .elem e off => some (.elem e off)
  | _ => none
def bkL (f : V → Option V) : List V → Option (List V)
  | [] => some []
  | v :: vs => match f v, bkL f vs with
    | some x, some xs => some (x :: xs)
    | _, _ => none
def V.bkC (f : Nat → Option (Option Nat)) : V → Option V
  | .fn g xs ys => match bkL (V.bkA f) xs, bkL (V.bkA f) ys with
    | some xs', some ys' => some (.fn g xs' ys')
    | _, _ => none
  | v => v.bkA f
def V.bk (f : Nat → Option (Option Nat)) : V → Option V
  | .agg cs => (bkL (V.bkC f) cs).map .agg
  | v => v.bkC f

/-- The places under the new names. -/
def renP (γ : Places) (f : Nat → Option (Option Nat)) : Places := fun id => match f id with
  | some (some k) => γ k
  | _ => none

variable {C : Ctx} {γ : Places} {I : Imm} {τ : Nat → V} {H : Heap} {tm : Array Value} {w : World} {ids : Nat → Option (Option Nat)}

theorem bkL_get {f : V → Option V} : ∀ {xs ys : List V}, bkL f xs = some ys → ys.length = xs.length ∧ ∀ (j : Nat) (x : V), xs[j]? = some x → ∃ y, ys[j]? = some y ∧ f x = some y
  | [], ys, h => by cases h; simp
  | x :: xs, ys, h => by
    simp only [bkL] at h
    split at h
    · rename_i a l h1 h2
      cases h
      obtain ⟨e1, e2⟩ := bkL_get h2
      refine ⟨by simp [e1], fun j z hz => ?_⟩
      cases j with
      | zero => simp at hz; subst hz; exact ⟨a, rfl, h1⟩
      | succ j => exact e2 j z (by simpa using hz)
    · cases h

theorem Rep.bkA {x y : V} {u : Value} (hb : x.bkA ids = some y) (h : Rep I w γ y u) : Rep I w (renP γ ids) x u := by
  cases x <;> simp only [V.bkA] at hb
  case own id off len =>
    split at hb
    · rename_i k hk
      cases hb
      cases h with
      | own _ _ _ _ cap p c t hp hcap hbl hroom => exact .own _ _ _ _ _ p c t (by simp [renP, hk, hp]) hcap hbl hroom
      | own0 => exact .own0 _ _ _ _
    · split at hb
      · rename_i hl
        cases hb
        subst hl
        cases h.sc_eq
        exact .own0 _ _ _ _
      · cases hb
    · cases hb
  case ref id idx off =>
    split at hb
    · rename_i k hk
      cases hb
      cases h with
      | ref _ _ _ _ p hp => exact .ref _ _ _ _ p (by simp [renP, hk, hp])
    · cases hb
  case mapr id =>
    split at hb
    · rename_i k hk
      cases hb
      cases h with
      | mapr _ _ p hp => exact .mapr _ _ p (by simp [renP, hk, hp])
    · cases hb
  case any => cases hb; exact .any _ _
  case sc v => cases hb; cases h.sc_eq; exact .sc _ _
  case slice s es =>
    cases hb
    cases h with
    | nilslice => exact .nilslice _ _ _ _
    | slice _ _ _ g o cap f hcap hsz hc h => exact .slice _ _ _ g o cap f hcap hsz hc h
  case mt => cases hb; cases h; exact .mt _ _
  case mapf => 
    cases hb
    cases h with
    | mapf _ ks vs r clock ents hI hr hl' hk h => exact .mapf _ _ _ _ _ _ hI hr hl' hk h
  case elem =>
    cases hb
    cases h with
    | elem _ e off g o f hc h => exact .elem _ _ _ _ _ f hc h
  all_goals cases hb
theorem Rep.bkC {x y : V} {u : Value} (hb : x.bkC ids = some y) (h : Rep I w γ y u) : Rep I w (renP γ ids) x u := by
  cases x with
  | fn f xs ys =>
    simp only [V.bkC] at hb
    split at hb
    · rename_i xs' ys' h1 h2
      cases hb
      obtain ⟨l1, g1⟩ := bkL_get h1
      obtain ⟨l2, g2⟩ := bkL_get h2
      cases h with
      | fn _ _ _ _ us vs e1 e2 e3 e4 =>
        refine .fn _ _ _ _ us vs (by omega) (by omega) (fun j c u hc hu => ?_) fun j c u hc hu => ?_
        · obtain ⟨y, hy, hf⟩ := g1 j c hc; exact (e3 j y u hy hu).bkA hf
        · obtain ⟨y, hy, hf⟩ := g2 j c hc; exact (e4 j y u hy hu).bkA hf
    · cases hb
  | _ => exact Rep.bkA (by simpa only [V.bkC] using hb) h
theorem Rep.bk {x y : V} {u : Value} (hb : x.bk ids = some y) (h : Rep I w γ y u) : Rep I w (renP γ ids) x u := by
  cases x with
  | agg cs =>
    simp only [V.bk, Option.map_eq_some_iff] at hb
    obtain ⟨cs', hcs, rfl⟩ := hb
    obtain ⟨l1, g1⟩ := bkL_get hcs
    cases h with
    | agg _ _ vs hlen hh =>
      refine .agg _ _ _ (by omega) fun j c u hc hu => ?_
      obtain ⟨y, hy, hf⟩ := g1 j c hc
      exact (hh j y u hy hu).bkC hf
  | _ => exact Rep.bkC (by simpa only [V.bk] using hb) h
/-- A value that names objects below m0 alone is under the new names what it is. -/
theorem cut_ren {m0 : Nat} (h0 : ∀ i, i < m0 → ids i = some (some i)) : ∀ id p, cutP γ m0 id = some p → renP γ ids id = some p := fun id p hp => by
  unfold cutP at hp
  split at hp
  · rename_i hlt; simp only [renP, h0 id hlt]; exact hp
  · cases hp
theorem Rep.closed {m0 : Nat} (h0 : ∀ i, i < m0 → ids i = some (some i)) {x : V} {u : Value} (hl : x.low m0 = true) (h : Rep I w γ x u) : Rep I w (renP γ ids) x u :=
  (h.low hl).mono (Pres.refl I w) (fun _ _ h => h) (cut_ren h0)
theorem Rep.closedC {m0 : Nat} (h0 : ∀ i, i < m0 → ids i = some (some i)) {x : V} {u : Value} (hl : x.lowC m0 = true) (h : Rep I w γ x u) : Rep I w (renP γ ids) x u :=
  (h.lowC hl).mono (Pres.refl I w) (fun _ _ h => h) (cut_ren h0)

def idsOk (ids : List (Option Nat)) : Prop := ∀ i j k : Nat, ids[i]? = some (some k) → ids[j]? = some (some k) → i = j
def idsB : List (Option Nat) → Bool
  | [] => true
  | none :: l => idsB l
  | some k :: l => !l.contains (some k) && idsB l
theorem idsB_ok : ∀ {ids : List (Option Nat)}, idsB ids = true → idsOk ids
  | [], _ => fun i j k h => by simp at h
  | x :: l, h => by
    have hl : idsB l = true := by
      cases x with
      | none => exact h
      | some k => simp only [idsB, Bool.and_eq_true] at h; exact h.2
    have ih := idsB_ok hl
    intro i j k hi hj
    cases i with
    | zero =>
      cases j with
      | zero => rfl
      | succ j =>
        simp at hi hj
        subst hi
        simp only [idsB, Bool.and_eq_true, Bool.not_eq_true', List.contains_eq_mem, decide_eq_false_iff_not] at h
        exact absurd (List.mem_of_getElem? hj) h.1
    | succ i =>
      cases j with
      | zero =>
        simp at hi hj
        subst hj
        simp only [idsB, Bool.and_eq_true, Bool.not_eq_true', List.contains_eq_mem, decide_eq_false_iff_not] at h
        exact absurd (List.mem_of_getElem? hi) h.1
      | succ j =>
        simp at hi hj
        rw [ih i j k hi hj]

theorem Sim.ren (h : Sim C γ I τ H tm w) {m0 : Nat} (hlow : LowC C m0) (h0 : ∀ i, i < m0 → ids i = some (some i)) {τ' : Nat → V} {H' : Heap} (hinj : ∀ i j k : Nat, ids i = some (some k) → ids j = some (some k) → (H' i).isLive → (H' j).isLive → i = j)
    (hτ : ∀ t, τ' t = .any ∨ ∃ v, (τ' t).bk ids = some v ∧ v = τ t)
    (h1 : ∀ i k, ids i = some (some k) → H' i = .dead ∨ (H' i = H k ∧ (H k).low m0 = true)) (h2 : ∀ i, ids i = some none → H' i = .dead ∨ ∃ sz, H' i = .live sz [] true) (h3 : ∀ i, ids i = none → H' i = .unborn) :
    Sim C (renP γ ids) I τ' H' tm w where
  below := h.below
  imm0 := h.imm0
  immB := h.immB
  immS := h.immS
  kept := fun fr hf t => (h.kept fr hf t).closed h0 (hlow fr hf t)
  tmp := fun t => by
    rcases hτ t with e | ⟨v, e, rfl⟩
    · rw [e]; exact .any _ _
    · exact Rep.bk e (h.tmp t)
  dom := fun id p hp => by
    unfold renP at hp
    split at hp
    · rename_i k hk
      obtain ⟨d1, d2, d3⟩ := h.dom k p hp
      refine ⟨?_, d2, d3⟩
      rcases h1 id k hk with e | ⟨e, _⟩
      · rw [e]; exact fun h => by cases h
      · rw [e]; exact d1
    · cases hp
  obj := fun id sz es mu hl => by
    cases hid : ids id with
    | none => rw [h3 id hid] at hl; cases hl
    | some o =>
      cases o with
      | none =>
        rcases h2 id hid with e | ⟨sz', e⟩
        · rw [e] at hl; cases hl
        · rw [e] at hl; cases hl; exact .inl ⟨rfl, by simp [renP, hid]⟩
      | some k =>
        obtain ⟨e1, e2⟩ : H' id = H k ∧ (H k).low m0 = true := by
          rcases h1 id k hid with e | e
          · rw [e] at hl; cases hl
          · exact e
        rw [e1] at hl
        rw [hl] at e2
        simp only [Obj.low, List.all_eq_true] at e2
        rcases h.obj k sz es mu hl with ⟨g1, g2⟩ | ⟨p, c, t, ha⟩
        · exact .inl ⟨g1, by simp [renP, hid, g2]⟩
        · refine .inr ⟨p, c, t, ⟨by simp [renP, hid, ha.place], ha.size, ha.blk, ha.len, fun i j e x he hx => ?_, ha.mutb, ha.fix⟩⟩
          obtain ⟨u, hu, hr⟩ := ha.cell i j e x he hx
          exact ⟨u, hu, hr.closedC h0 (low_cell (e2 e (List.mem_of_getElem? he)) hx)⟩
  ext := fun id x hl => by
    cases hid : ids id with
    | none => rw [h3 id hid] at hl; cases hl
    | some o =>
      cases o with
      | none =>
        rcases h2 id hid with e | ⟨sz', e⟩
        · rw [e] at hl; cases hl
        · rw [e] at hl; cases hl
      | some k =>
        obtain ⟨e1, e2⟩ : H' id = H k ∧ (H k).low m0 = true := by
          rcases h1 id k hid with e | e
          · rw [e] at hl; cases hl
          · exact e
        rw [e1] at hl
        rw [hl] at e2
        obtain ⟨p, g1, g2, o, g3, g4⟩ := h.ext k x hl
        refine ⟨p, by simp [renP, hid, g1], g2, o, g3, ?_⟩
        cases x with
        | iter s pos => exact g4
        | map ks vs =>
          obtain ⟨ents, clock, k1, k2, k3, k4, k5⟩ := g4
          simp only [Obj.low, Ext.low, List.all_eq_true] at e2
          exact ⟨ents, clock, k1, k2, k3, k4, fun j x e hx he => (k5 j x e hx he).closed h0 (e2 x (List.mem_of_getElem? hx))⟩
  inj := fun id id' p p' hl hl' hp hp' hb => by
    unfold renP at hp hp'
    split at hp
    · rename_i k hk
      split at hp'
      · rename_i k' hk'
        have l1 : (H k).isLive := by
          rcases h1 id k hk with e | ⟨e, _⟩
          · rw [e] at hl; exact hl.elim
          · rw [e] at hl; exact hl
        have l2 : (H k').isLive := by
          rcases h1 id' k' hk' with e | ⟨e, _⟩
          · rw [e] at hl'; exact hl'.elim
          · rw [e] at hl'; exact hl'
        have := h.inj k k' p p' l1 l2 hp hp' hb
        subst this
        exact hinj id id' k hk hk' hl hl'
      · cases hp'
    · cases hp

/-- The slots stand so, under the new names. -/
def holdsR (τ : Nat → V) (ids : Nat → Option (Option Nat)) : List (Nat × V) → Prop
  | [] => True
  | (k, v) :: L => v.bk ids = some (τ k) ∧ holdsR τ ids L
@[go_sem ↓] theorem holdsR_nil (τ : Nat → V) (ids : Nat → Option (Option Nat)) : holdsR τ ids [] = True := nd rfl
@[go_sem ↓] theorem holdsR_cons (τ : Nat → V) (ids : Nat → Option (Option Nat)) (k : Nat) (v : V) (L : List (Nat × V)) : holdsR τ ids ((k, v) :: L) = (v.bk ids = some (τ k) ∧ holdsR τ ids L) := nd rfl
/-- The objects stand so. -/
def oneO (H : Heap) (m0 : Nat) (x : Obj) : Option Nat → Prop
  | some k => x = .dead ∨ (H k = x ∧ x.low m0 = true)
  | none => x = .dead ∨ ∃ sz, x = .live sz [] true
def holdsP (H : Heap) (m0 : Nat) : List (Option Nat) → List Obj → Prop
  | [], [] => True
  | i :: ids, x :: O => oneO H m0 x i ∧ holdsP H m0 ids O
  | _, _ => False
@[go_sem ↓] theorem holdsP_nil (H : Heap) (m0 : Nat) : holdsP H m0 [] [] = True := nd rfl
@[go_sem ↓] theorem holdsP_some (H : Heap) (m0 : Nat) (k : Nat) (sz : Nat) (es : List V) (mu : Bool) (ids : List (Option Nat)) (O : List Obj) : holdsP H m0 (some k :: ids) (.live sz es mu :: O) = ((H k = .live sz es mu ∧ (Obj.live sz es mu).low m0 = true) ∧ holdsP H m0 ids O) := by simp [holdsP, oneO]
@[go_sem ↓] theorem holdsP_ext (H : Heap) (m0 : Nat) (k : Nat) (x : Ext) (ids : List (Option Nat)) (O : List Obj) : holdsP H m0 (some k :: ids) (.ext x :: O) = ((H k = .ext x ∧ (Obj.ext x).low m0 = true) ∧ holdsP H m0 ids O) := by simp [holdsP, oneO]
@[go_sem ↓] theorem holdsP_kill (H : Heap) (m0 : Nat) (k : Nat) (ids : List (Option Nat)) (O : List Obj) : holdsP H m0 (some k :: ids) (.dead :: O) = holdsP H m0 ids O := by simp [holdsP, oneO]
@[go_sem ↓] theorem holdsP_dead (H : Heap) (m0 : Nat) (ids : List (Option Nat)) (O : List Obj) : holdsP H m0 (none :: ids) (.dead :: O) = holdsP H m0 ids O := by simp [holdsP, oneO]
@[go_sem ↓] theorem holdsP_live (H : Heap) (m0 : Nat) (sz : Nat) (es : List V) (mu : Bool) (ids : List (Option Nat)) (O : List Obj) : holdsP H m0 (none :: ids) (.live sz es mu :: O) = ((es = [] ∧ mu = true) ∧ holdsP H m0 ids O) := by simp [holdsP, oneO]

theorem slotsR_of {τ : Nat → V} : ∀ {L : List (Nat × V)}, holdsR τ ids L → ∀ t, slotsL L t = .any ∨ ∃ v, (slotsL L t).bk ids = some v ∧ v = τ t
  | [], _, t => .inl rfl
  | (k, v) :: L, h, t => by
    rw [slotsL_cons]
    by_cases e : t = k
    · subst e; rw [if_pos rfl]; exact .inr ⟨_, h.1, rfl⟩
    · rw [if_neg e]; exact slotsR_of h.2 t
theorem holdsP_of {H : Heap} {m0 : Nat} : ∀ {ids : List (Option Nat)} {O : List Obj}, holdsP H m0 ids O → ids.length = O.length ∧ (∀ i k, ids[i]? = some (some k) → objsL O i = .dead ∨ (objsL O i = H k ∧ (H k).low m0 = true)) ∧
    (∀ i, ids[i]? = some none → objsL O i = .dead ∨ ∃ sz, objsL O i = .live sz [] true)
  | [], [], _ => by simp
  | [], _ :: _, h => h.elim
  | _ :: _, [], h => h.elim
  | o :: ids, x :: O, h => by
    obtain ⟨e1, e2, e3⟩ := holdsP_of h.2
    refine ⟨by simp [e1], fun i k hk => ?_, fun i hi => ?_⟩
    · cases i with
      | zero =>
        simp at hk
        subst hk
        rcases h.1 with g | ⟨g1, g2⟩
        · exact .inl g
        · exact .inr ⟨g1.symm, by rw [g1]; exact g2⟩
      | succ i => exact e2 i k (by simpa using hk)
    · cases i with
      | zero =>
        simp at hi
        subst hi
        exact h.1
      | succ i => exact e3 i (by simpa using hi)

/-- The names of objects that are dead do not matter. -/
def maskI : List (Option Nat) → List Obj → List (Option Nat)
  | _ :: ids, .dead :: O => none :: maskI ids O
  | i :: ids, _ :: O => i :: maskI ids O
  | _, _ => []
theorem maskI_get : ∀ {ids : List (Option Nat)} {O : List Obj}, ids.length = O.length → ∀ (i : Nat) (k : Nat), ids[i]? = some (some k) → (objsL O i).isLive → (maskI ids O)[i]? = some (some k)
  | [], O, _, i, k, h, _ => by simp at h
  | _ :: _, [], hl, i, k, _, _ => by simp at hl
  | a :: ids, x :: O, hl, i, k, h, hv => by
    have ih := fun i h hv => maskI_get (ids := ids) (O := O) (by simpa using hl) i k h hv
    cases i with
    | zero =>
      cases x with
      | dead => exact hv.elim
      | unborn => exact hv.elim
      | live => simpa [maskI] using h
      | ext => simpa [maskI] using h
    | succ i =>
      have := ih i (by simpa using h) hv
      cases x <;> simpa [maskI] using this
/-- BACK TO A STATE THAT IS LISTED, under new names. The first m0 names are kept. -/
theorem LeF.ren {C : Ctx} {τ : Nat → V} {H : Heap} {n : Nat} {L : List (Nat × V)} {O : List Obj} {m : Nat} (ids : List (Option Nat)) (hids : idsB (maskI ids O) = true) (hm : m = O.length) (m0 : Nat) (h : holdsR τ (ids[·]?) L ∧ holdsP H m0 ids O)
    (h0 : ∀ i, i < m0 → ids[i]? = some (some i) := by first | (intro i hi; exact absurd hi (Nat.not_lt_zero _)) | decide) (hlow : LowC C m0 := by first | exact LowC.top _ _ | assumption) : LeF C ⟨τ, H, n⟩ ⟨slotsL L, objsL O, m⟩ := by
  subst hm
  rintro a w ⟨γ, I, hS⟩
  obtain ⟨e1, e2, e3⟩ := holdsP_of h.2
  exact ⟨_, I, hS.ren (ids := (ids[·]?)) hlow h0 (fun i j k hi hj li lj => idsB_ok hids i j k (maskI_get e1 i k hi li) (maskI_get e1 j k hj lj)) (slotsR_of h.1) e2 e3 fun i hi => objsL_out (by rw [← e1]; simpa using hi)⟩
attribute [go_sem] V.bk V.bkC V.bkA bkL

/-! ### Above a heap that is not listed -/
/-- A heap, and objects from n on. -/
def extH (H0 : Heap) (n : Nat) (O : List Obj) : Heap := fun id => if id < n then H0 id else objsL O (id - n)
@[go_sem] theorem extH_0 (H0 : Heap) (n : Nat) (O : List Obj) : extH H0 n O n = objsL O 0 := by simp [extH]
@[go_sem] theorem extH_k (H0 : Heap) (n k : Nat) (O : List Obj) : extH H0 n O (n + k) = objsL O k := by simp [extH]; omega
theorem extH_lt {H0 : Heap} {n id : Nat} {O : List Obj} (h : id < n) : extH H0 n O id = H0 id := by simp [extH, h]
def renF (n : Nat) (ids : List (Option Nat)) : Nat → Option (Option Nat) := fun id => if id < n then some (some id) else ids[id - n]?
@[go_sem] theorem renF_0 (n : Nat) (ids : List (Option Nat)) : renF n ids n = ids[0]? := by simp [renF]
@[go_sem] theorem renF_k (n k : Nat) (ids : List (Option Nat)) : renF n ids (n + k) = ids[k]? := by simp [renF]; omega
theorem renF_lt {n id : Nat} {ids : List (Option Nat)} (h : id < n) : renF n ids id = some (some id) := by simp [renF, h]
/-- BACK to objects that are listed above a heap. -/
theorem LeF.renX {C : Ctx} {τ : Nat → V} {H : Heap} {n0 : Nat} {L : List (Nat × V)} {O : List Obj} {n m : Nat} {H0 : Heap} (ids : List (Option Nat)) (hids : idsB (maskI ids O) = true) (hm : m = n + O.length)
    (hbase : ∀ id, id < n → H0 id = .dead ∨ (H0 id = H id ∧ (H id).low n = true)) (hsep : ∀ i k, ids[i]? = some (some k) → k < n → H0 k = .dead ∨ (objsL O i = .dead)) (h : holdsR τ (renF n ids) L ∧ holdsP H n ids O)
    (hlow : LowC C n) : LeF C ⟨τ, H, n0⟩ ⟨slotsL L, extH H0 n O, m⟩ := by
  rintro a w ⟨γ, I, hS⟩
  obtain ⟨e1, e2, e3⟩ := holdsP_of h.2
  have split : ∀ i k, renF n ids i = some (some k) → (i < n ∧ k = i) ∨ (n ≤ i ∧ ids[i - n]? = some (some k)) := fun i k hi => by
    unfold renF at hi
    split at hi
    · rename_i hlt; cases hi; exact .inl ⟨hlt, rfl⟩
    · exact .inr ⟨by omega, hi⟩
  have hx : ∀ i, n ≤ i → extH H0 n O i = objsL O (i - n) := fun i hi => by unfold extH; rw [if_neg (by omega)]
  refine ⟨_, I, hS.ren (ids := renF n ids) (m0 := n) hlow (fun i hi => renF_lt hi) (fun i j k hi hj li lj => ?_) (slotsR_of h.1) (fun i k hi => ?_) (fun i hi => ?_) fun i hi => ?_⟩ <;> (try dsimp only) <;> (try dsimp only at li lj)
  · rcases split i k hi with ⟨a1, b1⟩ | ⟨a1, b1⟩
    · rcases split j k hj with ⟨a2, b2⟩ | ⟨a2, b2⟩
      · omega
      · exfalso
        rw [hx j a2] at lj
        subst b1
        rcases hsep _ _ b2 a1 with e | e
        · rw [extH_lt a1, e] at li; exact li
        · rw [e] at lj; exact lj
    · rcases split j k hj with ⟨a2, b2⟩ | ⟨a2, b2⟩
      · exfalso
        rw [hx i a1] at li
        subst b2
        rcases hsep _ _ b1 a2 with e | e
        · rw [extH_lt a2, e] at lj; exact lj
        · rw [e] at li; exact li
      · rw [hx i a1] at li
        rw [hx j a2] at lj
        have := idsB_ok hids (i - n) (j - n) k (maskI_get e1 _ k b1 li) (maskI_get e1 _ k b2 lj)
        omega
  · rcases split i k hi with ⟨a1, b1⟩ | ⟨a1, b1⟩
    · subst b1; rw [extH_lt a1]; exact hbase _ a1
    · rw [hx i a1]; exact e2 _ _ b1
  · unfold renF at hi
    split at hi
    · cases hi
    · rename_i hlt; rw [hx i (by omega)]; exact e3 _ hi
  · unfold renF at hi
    split at hi
    · cases hi
    · rename_i hlt
      rw [hx i (by omega)]
      exact objsL_out (by rw [← e1]; simpa using hi)

/-- No slot names an object from m on. -/
def LowT (m : Nat) (τ : Nat → V) : Prop := ∀ t, (τ t).low m = true
theorem LowT.upd {m : Nat} {τ : Nat → V} {d : Nat} {v : V} (h : LowT m τ) (hv : v.low m = true) : LowT m (updT τ d v) := fun t => by
  unfold updT
  split
  · exact hv
  · exact h t
theorem LowT.prune {m : Nat} {τ : Nat → V} {K : List Nat} (h : LowT m τ) : LowT m (Idl.prune K τ) := fun t => by
  unfold Idl.prune
  split
  · exact h t
  · rfl
theorem LowT.nil {m : Nat} : LowT m (slotsL []) := fun t => rfl
theorem LowT.cons {m k : Nat} {v : V} {L : List (Nat × V)} (hv : v.low m = true) (h : LowT m (slotsL L)) : LowT m (slotsL ((k, v) :: L)) := fun t => by
  rw [slotsL_cons]
  split
  · exact hv
  · exact h t
theorem LowT.pnil {m : Nat} : LowT m (pars []) := fun t => rfl
theorem LowT.pcons {m : Nat} {v : V} {L : List V} (hv : v.low m = true) (h : LowT m (pars L)) : LowT m (pars (v :: L)) := fun t => by
  cases t with
  | zero => exact hv
  | succ t => exact h t

end Go.Idl
