import Derived.Test.YtfinfdbbndcomaaDoorIdlM3
import Derived.Laws.BytesString
/-
  Back to a state that is listed, with the objects under new names; a slice that is nil stands as an object with no elements.
-/
namespace Go.Idl
set_option linter.all false
open Go.RowKit
variable [Laid]

/-- What a new name stood for. -/
def V.bkA (f : Nat → Option (Option Nat)) : V → Option V
  | .own id off len => match f id with
    | some (some k) => some (.own k off len)
    | some none => if len = 0 then some (.sc (.slice none 0 0)) else none
    | none => none
  | .ref id idx off => match f id with
    | some (some k) => some (.ref k idx off)
    | _ => none
  | .mapr id => match f id with
    | some (some k) => some (.mapr k)
    | _ => none
  | .any => some .any
  | .sc v => some (.sc v)
  | .slice s es => some (.slice s es)
  | .mt => some .mt
  | .mapf ks vs => some (.mapf ks vs)
  | .elem e off => some (.elem e off)
  | _ => none
def bkL (f : V → Option V) : List V → Option (List V)
  | [] => some []
  | v :: vs => match f v, bkL f vs with
    | some x, some xs => some (x :: xs)
    | _, _ => none
def V.bkC (f : Nat → Option (Option Nat)) : V → Option V
  | .fn g xs ys => match bkL (V.bkA f) xs, bkL (V.bkA f) ys with
    | some xs', some ys' => some (.fn g xs' ys')
    | _, _ => none
  | v => v.bkA f
def V.bk (f : Nat → Option (Option Nat)) : V → Option V
  | .agg cs => (bkL (V.bkC f) cs).map .agg
  | v => v.bkC f

/-- The places under the new names. -/
def renP (γ : Places) (f : Nat → Option (Option Nat)) : Places := fun id => match f id with
  | some (some k) => γ k
  | _ => none

variable {C : Ctx} {γ : Places} {I : Imm} {τ : Nat → V} {H : Heap} {tm : Array Value} {w : World} {ids : Nat → Option (Option Nat)}

theorem bkL_get {f : V → Option V} : ∀ {xs ys : List V}, bkL f xs = some ys → ys.length = xs.length ∧ ∀ (j : Nat) (x : V), xs[j]? = some x → ∃ y, ys[j]? = some y ∧ f x = some y
  | [], ys, h => by cases h; simp
  | x :: xs, ys, h => by
    simp only [bkL] at h
    split at h
    · rename_i a l h1 h2
      cases h
      obtain ⟨e1, e2⟩ := bkL_get h2
      refine ⟨by simp [e1], fun j z hz => ?_⟩
      cases j with
      | zero => simp at hz; subst hz; exact ⟨a, rfl, h1⟩
      | succ j => exact e2 j z (by simpa using hz)
    · cases h

theorem Rep.bkA {x y : V} {u : Value} (hb : x.bkA ids = some y) (h : Rep I w γ y u) : Rep I w (renP γ ids) x u := by
  cases x <;> simp only [V.bkA] at hb
  case own id off len =>
    split at hb
    · rename_i k hk
      cases hb
      cases h with
      | own _ _ _ _ cap p c t hp hcap hbl hroom => exact .own _ _ _ _ _ p c t (by simp [renP, hk, hp]) hcap hbl hroom
      | own0 => exact .own0 _ _ _ _
    · split at hb
      · rename_i hl
        cases hb
        subst hl
        cases h.sc_eq
        exact .own0 _ _ _ _
      · cases hb
    · cases hb
  case ref id idx off =>
    split at hb
    · rename_i k hk
      cases hb
      cases h with
      | ref _ _ _ _ p hp => exact .ref _ _ _ _ p (by simp [renP, hk, hp])
    · cases hb
  case mapr id =>
    split at hb
    · rename_i k hk
      cases hb
      cases h with
      | mapr _ _ p hp => exact .mapr _ _ p (by simp [renP, hk, hp])
    · cases hb
  case any => cases hb; exact .any _ _
  case sc v => cases hb; cases h.sc_eq; exact .sc _ _
  case slice s es =>
    cases hb
    cases h with
    | nilslice => exact .nilslice _ _ _ _
    | slice _ _ _ g o cap f hcap hsz hc h => exact .slice _ _ _ g o cap f hcap hsz hc h
  case mt => cases hb; cases h; exact .mt _ _
  case mapf => 
    cases hb
    cases h with
    | mapf _ ks vs r clock ents hI hr hl' hk h => exact .mapf _ _ _ _ _ _ hI hr hl' hk h
  case elem =>
    cases hb
    cases h with
    | elem _ e off g o f hc h => exact .elem _ _ _ _ _ f hc h
  all_goals cases hb
theorem Rep.bkC {x y : V} {u : Value} (hb : x.bkC ids = some y) (h : Rep I w γ y u) : Rep I w (renP γ ids) x u := by
  cases x with
  | fn f xs ys =>
    simp only [V.bkC] at hb
    split at hb
    · rename_i xs' ys' h1 h2
      cases hb
      obtain ⟨l1, g1⟩ := bkL_get h1
      obtain ⟨l2, g2⟩ := bkL_get h2
      cases h with
      | fn _ _ _ _ us vs e1 e2 e3 e4 =>
        refine .fn _ _ _ _ us vs (by omega) (by omega) (fun j c u hc hu => ?_) fun j c u hc hu => ?_
        · obtain ⟨y, hy, hf⟩ := g1 j c hc; exact (e3 j y u hy hu).bkA hf
        · obtain ⟨y, hy, hf⟩ := g2 j c hc; exact (e4 j y u hy hu).bkA hf
    · cases hb
  | _ => exact Rep.bkA (by simpa only [V.bkC] using hb) h
theorem Rep.bk {x y : V} {u : Value} (hb : x.bk ids = some y) (h : Rep I w γ y u) : Rep I w (renP γ ids) x u := by
  cases x with
  | agg cs =>
    simp only [V.bk, Option.map_eq_some_iff] at hb
    obtain ⟨cs', hcs, rfl⟩ := hb
    obtain ⟨l1, g1⟩ := bkL_get hcs
    cases h with
    | agg _ _ vs hlen hh =>
      refine .agg _ _ _ (by omega) fun j c u hc hu => ?_
      obtain ⟨y, hy, hf⟩ := g1 j c hc
      exact (hh j y u hy hu).bkC hf
  | _ => exact Rep.bkC (by simpa only [V.bk] using hb) h
/-- A value that names objects below m0 alone is under the new names what it is. -/
theorem cut_ren {m0 : Nat} (h0 : ∀ i, i < m0 → ids i = some (some i)) : ∀ id p, cutP γ m0 id = some p → renP γ ids id = some p := fun id p hp => by
  unfold cutP at hp
  split at hp
  · rename_i hlt; simp only [renP, h0 id hlt]; exact hp
  · cases hp
theorem Rep.closed {m0 : Nat} (h0 : ∀ i, i < m0 → ids i = some (some i)) {x : V} {u : Value} (hl : x.low m0 = true) (h : Rep I w γ x u) : Rep I w (renP γ ids) x u :=
  (h.low hl).mono (Pres.refl I w) (fun _ _ h => h) (cut_ren h0)
theorem Rep.closedC {m0 : Nat} (h0 : ∀ i, i < m0 → ids i = some (some i)) {x : V} {u : Value} (hl : x.lowC m0 = true) (h : Rep I w γ x u) : Rep I w (renP γ ids) x u :=
  (h.lowC hl).mono (Pres.refl I w) (fun _ _ h => h) (cut_ren h0)

def idsOk (ids : List (Option Nat)) : Prop := ∀ i j k : Nat, ids[i]? = some (some k) → ids[j]? = some (some k) → i = j
def idsB : List (Option Nat) → Bool
  | [] => true
  | none :: l => idsB l
  | some k :: l => !l.contains (some k) && idsB l
theorem idsB_ok : ∀ {ids : List (Option Nat)}, idsB ids = true → idsOk ids
  | [], _ => fun i j k h => by simp at h
  | x :: l, h => by
    have hl : idsB l = true := by
      cases x with
      | none => exact h
      | some k => simp only [idsB, Bool.and_eq_true] at h; exact h.2
    have ih := idsB_ok hl
    intro i j k hi hj
    cases i with
    | zero =>
      cases j with
      | zero => rfl
      | succ j =>
        simp at hi hj
        subst hi
        simp only [idsB, Bool.and_eq_true, Bool.not_eq_true', List.contains_eq_mem, decide_eq_false_iff_not] at h
        exact absurd (List.mem_of_getElem? hj) h.1
    | succ i =>
      cases j with
      | zero =>
        simp at hi hj
        subst hj
        simp only [idsB, Bool.and_eq_true, Bool.not_eq_true', List.contains_eq_mem, decide_eq_false_iff_not] at h
        exact absurd (List.mem_of_getElem? hi) h.1
      | succ j =>
        simp at hi hj
        rw [ih i j k hi hj]

theorem Sim.ren (h : Sim C γ I τ H tm w) {m0 : Nat} (hlow : LowC C m0) (h0 : ∀ i, i < m0 → ids i = some (some i)) {τ' : Nat → V} {H' : Heap} (hinj : ∀ i j k : Nat, ids i = some (some k) → ids j = some (some k) → (H' i).isLive → (H' j).isLive → i = j)
    (hτ : ∀ t, τ' t = .any ∨ ∃ v, (τ' t).bk ids = some v ∧ v = τ t)
    (h1 : ∀ i k, ids i = some (some k) → H' i = .dead ∨ (H' i = H k ∧ (H k).low m0 = true)) (h2 : ∀ i, ids i = some none → H' i = .dead ∨ ∃ sz, H' i = .live sz [] true) (h3 : ∀ i, ids i = none → H' i = .unborn) :
    Sim C (renP γ ids) I τ' H' tm w where
  below := h.below
  imm0 := h.imm0
  immB := h.immB
  immS := h.immS
  kept := fun fr hf t => (h.kept fr hf t).closed h0 (hlow fr hf t)
  tmp := fun t => by
    rcases hτ t with e | ⟨v, e, rfl⟩
    · rw [e]; exact .any _ _
    · exact Rep.bk e (h.tmp t)
  dom := fun id p hp => by
    unfold renP at hp
    split at hp
    · rename_i k hk
      obtain ⟨d1, d2, d3⟩ := h.dom k p hp
      refine ⟨?_, d2, d3⟩
      rcases h1 id k hk with e | ⟨e, _⟩
      · rw [e]; exact fun h => by cases h
      · rw [e]; exact d1
    · cases hp
  obj := fun id sz es mu hl => by
    cases hid : ids id with
    | none => rw [h3 id hid] at hl; cases hl
    | some o =>
      cases o with
      | none =>
        rcases h2 id hid with e | ⟨sz', e⟩
        · rw [e] at hl; cases hl
        · rw [e] at hl; cases hl; exact .inl ⟨rfl, by simp [renP, hid]⟩
      | some k =>
        obtain ⟨e1, e2⟩ : H' id = H k ∧ (H k).low m0 = true := by
          rcases h1 id k hid with e | e
          · rw [e] at hl; cases hl
          · exact e
        rw [e1] at hl
        rw [hl] at e2
        simp only [Obj.low, List.all_eq_true] at e2
        rcases h.obj k sz es mu hl with ⟨g1, g2⟩ | ⟨p, c, t, ha⟩
        · exact .inl ⟨g1, by simp [renP, hid, g2]⟩
        · refine .inr ⟨p, c, t, ⟨by simp [renP, hid, ha.place], ha.size, ha.blk, ha.len, fun i j e x he hx => ?_, ha.mutb, ha.fix⟩⟩
          obtain ⟨u, hu, hr⟩ := ha.cell i j e x he hx
          exact ⟨u, hu, hr.closedC h0 (low_cell (e2 e (List.mem_of_getElem? he)) hx)⟩
  ext := fun id x hl => by
    cases hid : ids id with
    | none => rw [h3 id hid] at hl; cases hl
    | some o =>
      cases o with
      | none =>
        rcases h2 id hid with e | ⟨sz', e⟩
        · rw [e] at hl; cases hl
        · rw [e] at hl; cases hl
      | some k =>
        obtain ⟨e1, e2⟩ : H' id = H k ∧ (H k).low m0 = true := by
          rcases h1 id k hid with e | e
          · rw [e] at hl; cases hl
          · exact e
        rw [e1] at hl
        rw [hl] at e2
        obtain ⟨p, g1, g2, o, g3, g4⟩ := h.ext k x hl
        refine ⟨p, by simp [renP, hid, g1], g2, o, g3, ?_⟩
        cases x with
        | iter s pos => exact g4
        | map ks vs =>
          obtain ⟨ents, clock, k1, k2, k3, k4, k5⟩ := g4
          simp only [Obj.low, Ext.low, List.all_eq_true] at e2
          exact ⟨ents, clock, k1, k2, k3, k4, fun j x e hx he => (k5 j x e hx he).closed h0 (e2 x (List.mem_of_getElem? hx))⟩
  inj := fun id id' p p' hl hl' hp hp' hb => by
    unfold renP at hp hp'
    split at hp
    · rename_i k hk
      split at hp'
      · rename_i k' hk'
        have l1 : (H k).isLive := by
          rcases h1 id k hk with e | ⟨e, _⟩
          · rw [e] at hl; exact hl.elim
          · rw [e] at hl; exact hl
        have l2 : (H k').isLive := by
          rcases h1 id' k' hk' with e | ⟨e, _⟩
          · rw [e] at hl'; exact hl'.elim
          · rw [e] at hl'; exact hl'
        have := h.inj k k' p p' l1 l2 hp hp' hb
        subst this
        exact hinj id id' k hk hk' hl hl'
      · cases hp'
    · cases hp

/-- The slots stand so, under the new names. -/
def holdsR (τ : Nat → V) (ids : Nat → Option (Option Nat)) : List (Nat × V) → Prop
  | [] => True
  | (k, v) :: L => v.bk ids = some (τ k) ∧ holdsR τ ids L
@[go_sem ↓] theorem holdsR_nil (τ : Nat → V) (ids : Nat → Option (Option Nat)) : holdsR τ ids [] = True := nd rfl
@[go_sem ↓] theorem holdsR_cons (τ : Nat → V) (ids : Nat → Option (Option Nat)) (k : Nat) (v : V) (L : List (Nat × V)) : holdsR τ ids ((k, v) :: L) = (v.bk ids = some (τ k) ∧ holdsR τ ids L) := nd rfl
/-- The objects stand so. -/
def oneO (H : Heap) (m0 : Nat) (x : Obj) : Option Nat → Prop
  | some k => x = .dead ∨ (H k = x ∧ x.low m0 = true)
  | none => x = .dead ∨ ∃ sz, x = .live sz [] true
def holdsP (H : Heap) (m0 : Nat) : List (Option Nat) → List Obj → Prop
  | [], [] => True
  | i :: ids, x :: O => oneO H m0 x i ∧ holdsP H m0 ids O
  | _, _ => False
@[go_sem ↓] theorem holdsP_nil (H : Heap) (m0 : Nat) : holdsP H m0 [] [] = True := nd rfl
@[go_sem ↓] theorem holdsP_some (H : Heap) (m0 : Nat) (k : Nat) (sz : Nat) (es : List V) (mu : Bool) (ids : List (Option Nat)) (O : List Obj) : holdsP H m0 (some k :: ids) (.live sz es mu :: O) = ((H k = .live sz es mu ∧ (Obj.live sz es mu).low m0 = true) ∧ holdsP H m0 ids O) := by simp [holdsP, oneO]
@[go_sem ↓] theorem holdsP_ext (H : Heap) (m0 : Nat) (k : Nat) (x : Ext) (ids : List (Option Nat)) (O : List Obj) : holdsP H m0 (some k :: ids) (.ext x :: O) = ((H k = .ext x ∧ (Obj.ext x).low m0 = true) ∧ holdsP H m0 ids O) := by simp [holdsP, oneO]
@[go_sem ↓] theorem holdsP_kill (H : Heap) (m0 : Nat) (k : Nat) (ids : List (Option Nat)) (O : List Obj) : holdsP H m0 (some k :: ids) (.dead :: O) = holdsP H m0 ids O := by simp [holdsP, oneO]
@[go_sem ↓] theorem holdsP_dead (H : Heap) (m0 : Nat) (ids : List (Option Nat)) (O : List Obj) : holdsP H m0 (none :: ids) (.dead :: O) = holdsP H m0 ids O := by simp [holdsP, oneO]
@[go_sem ↓] theorem holdsP_live (H : Heap) (m0 : Nat) (sz : Nat) (es : List V) (mu : Bool) (ids : List (Option Nat)) (O : List Obj) : holdsP H m0 (none :: ids) (.live sz es mu :: O) = ((es = [] ∧ mu = true) ∧ holdsP H m0 ids O) := by simp [holdsP, oneO]

theorem slotsR_of {τ : Nat → V} : ∀ {L : List (Nat × V)}, holdsR τ ids L → ∀ t, slotsL L t = .any ∨ ∃ v, (slotsL L t).bk ids = some v ∧ v = τ t
  | [], _, t => .inl rfl
  | (k, v) :: L, h, t => by
    rw [slotsL_cons]
    by_cases e : t = k
    · subst e; rw [if_pos rfl]; exact .inr ⟨_, h.1, rfl⟩
    · rw [if_neg e]; exact slotsR_of h.2 t
theorem holdsP_of {H : Heap} {m0 : Nat} : ∀ {ids : List (Option Nat)} {O : List Obj}, holdsP H m0 ids O → ids.length = O.length ∧ (∀ i k, ids[i]? = some (some k) → objsL O i = .dead ∨ (objsL O i = H k ∧ (H k).low m0 = true)) ∧
    (∀ i, ids[i]? = some none → objsL O i = .dead ∨ ∃ sz, objsL O i = .live sz [] true)
  | [], [], _ => by simp
  | [], _ :: _, h => h.elim
  | _ :: _, [], h => h.elim
  | o :: ids, x :: O, h => by
    obtain ⟨e1, e2, e3⟩ := holdsP_of h.2
    refine ⟨by simp [e1], fun i k hk => ?_, fun i hi => ?_⟩
    · cases i with
      | zero =>
        simp at hk
        subst hk
        rcases h.1 with g | ⟨g1, g2⟩
        · exact .inl g
        · exact .inr ⟨g1.symm, by rw [g1]; exact g2⟩
      | succ i => exact e2 i k (by simpa using hk)
    · cases i with
      | zero =>
        simp at hi
        subst hi
        exact h.1
      | succ i => exact e3 i (by simpa using hi)

/-- The names of objects that are dead do not matter. -/
def maskI : List (Option Nat) → List Obj → List (Option Nat)
  | _ :: ids, .dead :: O => none :: maskI ids O
  | i :: ids, _ :: O => i :: maskI ids O
  | _, _ => []
theorem maskI_get : ∀ {ids : List (Option Nat)} {O : List Obj}, ids.length = O.length → ∀ (i : Nat) (k : Nat), ids[i]? = some (some k) → (objsL O i).isLive → (maskI ids O)[i]? = some (some k)
  | [], O, _, i, k, h, _ => by simp at h
  | _ :: _, [], hl, i, k, _, _ => by simp at hl
  | a :: ids, x :: O, hl, i, k, h, hv => by
    have ih := fun i h hv => maskI_get (ids := ids) (O := O) (by simpa using hl) i k h hv
    cases i with
    | zero =>
      cases x with
      | dead => exact hv.elim
      | unborn => exact hv.elim
      | live => simpa [maskI] using h
      | ext => simpa [maskI] using h
    | succ i =>
      have := ih i (by simpa using h) hv
      cases x <;> simpa [maskI] using this
/-- BACK TO A STATE THAT IS LISTED, under new names. The first m0 names are kept. -/
theorem LeF.ren {C : Ctx} {τ : Nat → V} {H : Heap} {n : Nat} {L : List (Nat × V)} {O : List Obj} {m : Nat} (ids : List (Option Nat)) (hids : idsB (maskI ids O) = true) (hm : m = O.length) (m0 : Nat) (h : holdsR τ (ids[·]?) L ∧ holdsP H m0 ids O)
    (h0 : ∀ i, i < m0 → ids[i]? = some (some i) := by first | (intro i hi; exact absurd hi (Nat.not_lt_zero _)) | decide) (hlow : LowC C m0 := by first | exact LowC.top _ _ | assumption) : LeF C ⟨τ, H, n⟩ ⟨slotsL L, objsL O, m⟩ := by
  subst hm
  rintro a w ⟨γ, I, hS⟩
  obtain ⟨e1, e2, e3⟩ := holdsP_of h.2
  exact ⟨_, I, hS.ren (ids := (ids[·]?)) hlow h0 (fun i j k hi hj li lj => idsB_ok hids i j k (maskI_get e1 i k hi li) (maskI_get e1 j k hj lj)) (slotsR_of h.1) e2 e3 fun i hi => objsL_out (by rw [← e1]; simpa using hi)⟩
attribute [go_sem] V.bk V.bkC V.bkA bkL

/-! ### Above a heap that is not listed -/
/-- A heap, and objects from n on. -/
def extH (H0 : Heap) (n : Nat) (O : List Obj) : Heap := fun id => if id < n then H0 id else objsL O (id - n)
@[go_sem] theorem extH_0 (H0 : Heap) (n : Nat) (O : List Obj) : extH H0 n O n = objsL O 0 := by simp [extH]
@[go_sem] theorem extH_k (H0 : Heap) (n k : Nat) (O : List Obj) : extH H0 n O (n + k) = objsL O k := by simp [extH]; omega
theorem extH_lt {H0 : Heap} {n id : Nat} {O : List Obj} (h : id < n) : extH H0 n O id = H0 id := by simp [extH, h]
def renF (n : Nat) (ids : List (Option Nat)) : Nat → Option (Option Nat) := fun id => if id < n then some (some id) else ids[id - n]?
@[go_sem] theorem renF_0 (n : Nat) (ids : List (Option Nat)) : renF n ids n = ids[0]? := by simp [renF]
@[go_sem] theorem renF_k (n k : Nat) (ids : List (Option Nat)) : renF n ids (n + k) = ids[k]? := by simp [renF]; omega
theorem renF_lt {n id : Nat} {ids : List (Option Nat)} (h : id < n) : renF n ids id = some (some id) := by simp [renF, h]
/-- BACK to objects that are listed above a heap. -/
theorem LeF.renX {C : Ctx} {τ : Nat → V} {H : Heap} {n0 : Nat} {L : List (Nat × V)} {O : List Obj} {n m : Nat} {H0 : Heap} (ids : List (Option Nat)) (hids : idsB (maskI ids O) = true) (hm : m = n + O.length)
    (hbase : ∀ id, id < n → H0 id = .dead ∨ (H0 id = H id ∧ (H id).low n = true)) (hsep : ∀ i k, ids[i]? = some (some k) → k < n → H0 k = .dead ∨ (objsL O i = .dead)) (h : holdsR τ (renF n ids) L ∧ holdsP H n ids O)
    (hlow : LowC C n) : LeF C ⟨τ, H, n0⟩ ⟨slotsL L, extH H0 n O, m⟩ := by
  rintro a w ⟨γ, I, hS⟩
  obtain ⟨e1, e2, e3⟩ := holdsP_of h.2
  have split : ∀ i k, renF n ids i = some (some k) → (i < n ∧ k = i) ∨ (n ≤ i ∧ ids[i - n]? = some (some k)) := fun i k hi => by
    unfold renF at hi
    split at hi
    · rename_i hlt; cases hi; exact .inl ⟨hlt, rfl⟩
    · exact .inr ⟨by omega, hi⟩
  have hx : ∀ i, n ≤ i → extH H0 n O i = objsL O (i - n) := fun i hi => by unfold extH; rw [if_neg (by omega)]
  refine ⟨_, I, hS.ren (ids := renF n ids) (m0 := n) hlow (fun i hi => renF_lt hi) (fun i j k hi hj li lj => ?_) (slotsR_of h.1) (fun i k hi => ?_) (fun i hi => ?_) fun i hi => ?_⟩ <;> (try dsimp only) <;> (try dsimp only at li lj)
  · rcases split i k hi with ⟨a1, b1⟩ | ⟨a1, b1⟩
    · rcases split j k hj with ⟨a2, b2⟩ | ⟨a2, b2⟩
      · omega
      · exfalso
        rw [hx j a2] at lj
        subst b1
        rcases hsep _ _ b2 a1 with e | e
        · rw [extH_lt a1, e] at li; exact li
        · rw [e] at lj; exact lj
    · rcases split j k hj with ⟨a2, b2⟩ | ⟨a2, b2⟩
      · exfalso
        rw [hx i a1] at li
        subst b2
        rcases hsep _ _ b1 a2 with e | e
        · rw [extH_lt a2, e] at lj; exact lj
        · rw [e] at li; exact li
      · rw [hx i a1] at li
        rw [hx j a2] at lj
        have := idsB_ok hids (i - n) (j - n) k (maskI_get e1 _ k b1 li) (maskI_get e1 _ k b2 lj)
        omega
  · rcases split i k hi with ⟨a1, b1⟩ | ⟨a1, b1⟩
    · subst b1; rw [extH_lt a1]; exact hbase _ a1
    · rw [hx i a1]; exact e2 _ _ b1
  · unfold renF at hi
    split at hi
    · cases hi
    · rename_i hlt; rw [hx i (by omega)]; exact e3 _ hi
  · unfold renF at hi
    split at hi
    · cases hi
    · rename_i hlt
      rw [hx i (by omega)]
      exact objsL_out (by rw [← e1]; simpa using hi)

/-- No slot names an object from m on. -/
def LowT (m : Nat) (τ : Nat → V) : Prop := ∀ t, (τ t).low m = true
theorem LowT.upd {m : Nat} {τ : Nat → V} {d : Nat} {v : V} (h : LowT m τ) (hv : v.low m = true) : LowT m (updT τ d v) := fun t => by
  unfold updT
  split
  · exact hv
  · exact h t
theorem LowT.prune {m : Nat} {τ : Nat → V} {K : List Nat} (h : LowT m τ) : LowT m (Idl.prune K τ) := fun t => by
  unfold Idl.prune
  split
  · exact h t
  · rfl
theorem LowT.nil {m : Nat} : LowT m (slotsL []) := fun t => rfl
theorem LowT.cons {m k : Nat} {v : V} {L : List (Nat × V)} (hv : v.low m = true) (h : LowT m (slotsL L)) : LowT m (slotsL ((k, v) :: L)) := fun t => by
  rw [slotsL_cons]
  split
  · exact hv
  · exact h t
theorem LowT.pnil {m : Nat} : LowT m (pars []) := fun t => rfl
theorem LowT.pcons {m : Nat} {v : V} {L : List V} (hv : v.low m = true) (h : LowT m (pars L)) : LowT m (pars (v :: L)) := fun t => by
  cases t with
  | zero => exact hv
  | succ t => exact h t

end Go.Idl

/-
  Maps over data: keys and what they hold, in the order in which they came.
-/
namespace Go.Idl
set_option linter.all false
open Go.RowKit
variable [Laid]

/-- Data that are keys of maps. -/
class KeyC (κ : Type) where
  deq : DecidableEq κ
  ag : Bool
  ks : List CK
  kval : κ → Value
  kdec : Value → Option κ
  kdec_val : ∀ k, kdec (kval k) = some k
  kval_dec : ∀ v k, kdec v = some k → v = kval k
  okk : ∀ k, okKey ag (kval k) = true
  len : ∀ k, (kval k).cells.size = ks.length
  eqk : ∀ a b, eqK ks (kval a).cells.toList (kval b).cells.toList = some (decide (a = b))
instance (priority := low) instKeyDeq (κ : Type) [KeyC κ] : DecidableEq κ := KeyC.deq

theorem ba_beq (a b : ByteArray) : (a == b) = decide (a = b) := by
  rw [Bool.eq_iff_iff]
  cases a with | mk x =>
  cases b with | mk y =>
    have e : ((⟨x⟩ : ByteArray) == ⟨y⟩) = (x == y) := rfl
    rw [e]
    simp
def decKey : List Value → Option KeyD
  | [.string x, .string y, .int .i64 n] => some ⟨x, y, n⟩
  | _ => none
def decKey' : Value → Option KeyD
  | .agg a => decKey a.toList
  | _ => none
instance : KeyC ByteArray where
  deq := inferInstance
  ag := false
  ks := [.s]
  kval := .string
  kdec := fun | .string s => some s | _ => none
  kdec_val := fun _ => rfl
  kval_dec := fun v k h => by
    split at h
    · cases h; rfl
    · cases h
  okk := fun _ => rfl
  len := fun _ => rfl
  eqk := fun a b => by
    show andO (some (a == b)) (some true) = _
    simp only [andO, Bool.and_true, Option.some.injEq, ba_beq]
instance : KeyC KeyD where
  deq := fun a b => if h : a.station = b.station ∧ a.txn = b.txn ∧ a.seq = b.seq then .isTrue (by cases a; cases b; simp at h; simp [h]) else .isFalse fun e => h (by rw [e]; exact ⟨rfl, rfl, rfl⟩)
  ag := true
  ks := [.s, .s, .i .i64]
  kval := fun k => .agg #[.string k.station, .string k.txn, .int .i64 k.seq]
  kdec := decKey'
  kdec_val := fun _ => rfl
  kval_dec := fun v k h => by
    unfold decKey' at h
    split at h
    · rename_i a
      unfold decKey at h
      split at h
      · rename_i x y n hl
        cases h
        rw [← Array.toArray_toList (xs := a), hl]
      · cases h
    · cases h
  okk := fun _ => rfl
  len := fun _ => rfl
  eqk := fun a b => by
    show andO (some (a.station == b.station)) (andO (some (a.txn == b.txn)) (andO (if IntKind.i64 = IntKind.i64 ∧ IntKind.i64 = IntKind.i64 then some (a.seq == b.seq) else none) (some true))) = _
    simp only [andO, Bool.and_true, and_self, if_true, Option.some.injEq, ba_beq]
    rw [Bool.eq_iff_iff]
    simp only [Bool.and_eq_true, beq_iff_eq, decide_eq_true_eq]
    constructor
    · rintro ⟨h1, h2, h3⟩; cases a; cases b; simp at h1 h2 h3; simp [h1, h2, h3]
    · rintro rfl; exact ⟨rfl, rfl, rfl⟩

section
variable {κ α : Type} [KeyC κ]

def keysM (m : List (κ × α)) : List Value := m.map fun p => KeyC.kval p.1
def valsM [Cod α] (m : List (κ × α)) : List V := m.map fun p => Cod.enc p.2
/-- Where a key stands. -/
def fidx (m : List (κ × α)) (k : κ) : Option Nat := m.findIdx? fun p => decide (k = p.1)
def lookM (m : List (κ × α)) (k : κ) : Option α := (m.find? fun p => decide (k = p.1)).map (·.2)
def putM (m : List (κ × α)) (k : κ) (a : α) : List (κ × α) := match fidx m k with
  | some i => m.set i (k, a)
  | none => m ++ [(k, a)]
def delM (m : List (κ × α)) (k : κ) : List (κ × α) := match fidx m k with
  | some i => m.eraseIdx i
  | none => m

theorem keyFind_typed (m : List (κ × α)) (k : κ) (i : Nat) : keyFind (KeyC.ag κ) (KeyC.ks κ) (KeyC.kval k).cells.toList (keysM m) i = some ((fidx m k).map (· + i)) := by
  induction m generalizing i with
  | nil => rfl
  | cons p m ih =>
    simp only [keysM, List.map_cons, keyFind, KeyC.okk, if_true, KeyC.eqk]
    have ih' := ih (i + 1)
    simp only [keysM] at ih'
    by_cases h : k = p.1
    · simp [h, fidx, List.findIdx?_cons]
    · simp only [h, decide_false, ih', fidx, List.findIdx?_cons, Bool.false_eq_true, if_false]
      cases List.findIdx? (fun p => decide (k = p.1)) m <;> simp; omega
theorem idxI_typed (m : List (κ × α)) (k : κ) : idxI (KeyC.ag κ) (KeyC.ks κ) (KeyC.kval k) (keysM m) = some (fidx m k) := by
  unfold idxI
  rw [if_pos (KeyC.len k), keyFind_typed]
  simp
theorem idxI_of {ag : Bool} {ks : List CK} {kv : Value} (m : List (κ × α)) (k : κ) (h1 : ag = KeyC.ag κ) (h2 : ks = KeyC.ks κ) (h3 : kv = KeyC.kval k) : idxI ag ks kv (keysM m) = some (fidx m k) := by
  subst h1 h2 h3; exact idxI_typed m k

theorem fidx_some {m : List (κ × α)} {k : κ} {i : Nat} (h : fidx m k = some i) : ∃ a, m[i]? = some (k, a) ∧ lookM m k = some a := by
  unfold fidx at h
  unfold lookM
  have hh := List.findIdx?_eq_some_iff_getElem.1 h
  obtain ⟨hi, h1, h2⟩ := hh
  have e : m[i].1 = k := by simpa using (Eq.symm (by simpa using h1))
  refine ⟨m[i].2, ?_, ?_⟩
  · rw [List.getElem?_eq_getElem hi, ← e]
  · have : m.find? (fun p => decide (k = p.1)) = some m[i] := by
      rw [List.find?_eq_some_iff_getElem]
      exact ⟨h1, i, hi, rfl, fun j hj => by simpa using h2 j hj⟩
    rw [this]; rfl
theorem fidx_none {m : List (κ × α)} {k : κ} (h : fidx m k = none) : lookM m k = none := by
  unfold fidx at h
  unfold lookM
  rw [List.findIdx?_eq_none_iff] at h
  rw [Option.map_eq_none_iff, List.find?_eq_none]
  intro p hp
  simp [h p hp]
theorem lookM_none {m : List (κ × α)} {k : κ} : lookM m k = none ↔ fidx m k = none := by
  constructor
  · intro h
    cases hf : fidx m k with
    | none => rfl
    | some i => obtain ⟨a, _, h2⟩ := fidx_some hf; rw [h] at h2; cases h2
  · exact fidx_none

/-- What a look-up yields. -/
def lookT [Cod α] (z : V) (b : Bool) : Option α → Option (V × List (Nat × Obj))
  | some a => some (lookV b (Cod.enc a) true, [])
  | none => some (lookV b z false, [])
@[go_sem ↓] theorem lookT_some [Cod α] (z : V) (b : Bool) (a : α) : lookT z b (some a) = some (lookV b (Cod.enc a) true, []) := nd rfl
@[go_sem ↓] theorem lookT_none [Cod α] (z : V) (b : Bool) : lookT z b (none : Option α) = some (lookV b z false, []) := nd rfl
@[congr] theorem lookT_congr [Cod α] {z : V} {b : Bool} {x x' : Option α} (h : x = x') : lookT z b x = lookT z b x' := by rw [h]
@[go_sem] theorem lookF_typed [Cod α] (z : V) (b : Bool) (m : List (κ × α)) (k : κ) : lookF z b (valsM m) (some (fidx m k)) = lookT z b (lookM m k) := by
  cases h : fidx m k with
  | none => rw [fidx_none h]; rfl
  | some i =>
    obtain ⟨a, h1, h2⟩ := fidx_some h
    rw [h2]
    simp [lookF, valsM, h1, lookT]
theorem putF_typed [Cod α] (id : Nat) (kv : Value) (v : V) (m : List (κ × α)) (k : κ) (a : α) (hk : kv = KeyC.kval k) (hv : v = Cod.enc a) :
    putF' id kv v (keysM m) (valsM m) (some (fidx m k)) = some (.any, [(id, .ext (.map (keysM (putM m k a)) (valsM (putM m k a))))]) := by
  subst hk hv
  unfold putM
  cases h : fidx m k with
  | none => simp [putF', keysM, valsM]
  | some i => simp [putF', keysM, valsM, List.map_set]
theorem map_erase' {α β : Type} (f : α → β) : ∀ (l : List α) (i : Nat), (l.eraseIdx i).map f = (l.map f).eraseIdx i
  | [], _ => rfl
  | _ :: _, 0 => rfl
  | a :: l, i + 1 => by simp [map_erase' f l i]
@[go_sem] theorem delF_typed [Cod α] (id : Nat) (m : List (κ × α)) (k : κ) : delF id (keysM m) (valsM m) (some (fidx m k)) = some (.sc (.tuple #[]), [(id, .ext (.map (keysM (delM m k)) (valsM (delM m k))))]) := by
  unfold delM
  cases h : fidx m k with
  | none => simp [delF, keysM, valsM]
  | some i => simp [delF, keysM, valsM, map_erase']
@[go_sem] theorem keysM_len (m : List (κ × α)) : (keysM m).length = m.length := by simp [keysM]
theorem keysM_nil : keysM ([] : List (κ × α)) = [] := rfl
theorem valsM_nil [Cod α] : valsM ([] : List (κ × α)) = [] := rfl

/-! ### What looking up after a change yields -/
theorem lookM_nil (k : κ) : lookM ([] : List (κ × α)) k = none := rfl
theorem find_set {m : List (κ × α)} {k : κ} {a : α} {i : Nat} (h : fidx m k = some i) (k' : κ) : lookM (m.set i (k, a)) k' = if k' = k then some a else lookM m k' := by
  induction m generalizing i with
  | nil => simp [fidx] at h
  | cons p m ih =>
    unfold fidx at h
    rw [List.findIdx?_cons] at h
    by_cases hk : k = p.1
    · simp only [hk, decide_true, if_true, Option.some.injEq] at h
      subst h
      simp only [List.set_cons_zero, lookM, List.find?_cons]
      by_cases e : k' = k
      · simp [e]
      · have : ¬ k' = p.1 := fun e' => e (e'.trans hk.symm)
        simp [e, this]
    · simp only [hk, decide_false, Bool.false_eq_true, if_false, Option.map_eq_some_iff] at h
      obtain ⟨j, hj, rfl⟩ := h
      have := ih (i := j) hj
      simp only [List.set_cons_succ]
      unfold lookM at this ⊢
      rw [List.find?_cons, List.find?_cons]
      by_cases e : k' = p.1
      · have : ¬ k' = k := fun e' => hk (e'.symm.trans e)
        simp [e]
        intro h; exact absurd h.symm hk
      · simp only [e, decide_false]
        exact this
theorem lookM_put (m : List (κ × α)) (k : κ) (a : α) (k' : κ) : lookM (putM m k a) k' = if k' = k then some a else lookM m k' := by
  unfold putM
  cases h : fidx m k with
  | some i => exact find_set h k'
  | none =>
    have hn := fidx_none h
    unfold lookM at hn ⊢
    simp only [List.find?_append, List.find?_cons, List.find?_nil]
    by_cases e : k' = k
    · subst e
      rw [Option.map_eq_none_iff] at hn
      simp [hn]
    · simp only [e, decide_false, if_false, Option.or_none]

/-- A map, or the map that is nil. -/
structure KM (κ α : Type) where
  o : Option (List (κ × α))
def decKs : List Value → Option (List κ)
  | [] => some []
  | v :: vs => match KeyC.kdec v, decKs vs with
    | some k, some l => some (k :: l)
    | _, _ => none
theorem decKs_val (l : List κ) : decKs (l.map KeyC.kval) = some l := by
  induction l with
  | nil => rfl
  | cons k l ih => simp [decKs, KeyC.kdec_val, ih]
theorem decKs_eq : ∀ {vs : List Value} {l : List κ}, decKs vs = some l → vs = l.map KeyC.kval
  | [], l, h => by cases h; rfl
  | v :: vs, l, h => by
    simp only [decKs] at h
    split at h
    · rename_i k l' h1 h2
      cases h
      rw [KeyC.kval_dec _ _ h1, decKs_eq h2]
      rfl
    · cases h
def decM [Cod α] : V → Option (KM κ α)
  | .sc (.map none) => some ⟨none⟩
  | .mapf ks vs => match (decKs ks : Option (List κ)), (decL Cod.dec vs : Option (List α)) with
    | some a, some b => if a.length = b.length then some ⟨some (a.zip b)⟩ else none
    | _, _ => none
  | _ => none
theorem LeV.mapf {ks : List Value} {vs vs' : List V} (hl : vs.length = vs'.length) (h : ∀ (j : Nat) v v', vs[j]? = some v → vs'[j]? = some v' → LeV v v') : LeV (.mapf ks vs) (.mapf ks vs') := by
  intro I w u hr
  cases hr with
  | mapf _ _ _ r clock ents hI hr hl' hk hh =>
    refine .mapf _ _ _ _ clock ents hI hr (by omega) hk fun j x e hx he => ?_
    have hj : j < vs.length := by rw [hl]; exact (List.getElem?_eq_some_iff.1 hx).1
    exact h j vs[j] x (by simp) hx I w _ (hh j vs[j] e (by simp) he)
instance instKM [Cod α] : Cod (KM κ α) where
  enc := fun m => match m.o with
    | none => .sc (.map none)
    | some l => .mapf (keysM l) (valsM l)
  dec := decM
  sz := 1
  len := fun m => by cases m.o <;> rfl
  dec_enc := fun ⟨m⟩ => by
    cases m with
    | none => rfl
    | some l =>
      have e1 : keysM l = (l.map (·.1)).map KeyC.kval := by simp [keysM, Function.comp_def]
      have e2 : valsM l = (l.map (·.2)).map Cod.enc := by simp [valsM, Function.comp_def]
      show decM (.mapf (keysM l) (valsM l)) = _
      simp only [decM, e1, e2, decKs_val, decL_enc Cod.dec_enc, List.length_map, if_true]
      simp only [← List.unzip_fst, ← List.unzip_snd, List.zip_unzip]
  le := fun v m h => by
    unfold decM at h
    split at h
    · cases h; exact .one rfl rfl (.refl _)
    · rename_i ks vs
      split at h
      · rename_i a b h1 h2
        split at h
        · rename_i hl
          cases h
          refine .one rfl rfl ?_
          have e1 : keysM (a.zip b) = ks := by
            rw [decKs_eq h1]
            simp only [keysM]
            rw [show (fun p : κ × α => KeyC.kval p.1) = KeyC.kval ∘ Prod.fst from rfl, ← List.map_map, List.map_fst_zip (by omega)]
          have e2 : valsM (a.zip b) = b.map Cod.enc := by
            simp only [valsM]
            rw [show (fun p : κ × α => Cod.enc p.2) = Cod.enc ∘ Prod.snd from rfl, ← List.map_map, List.map_snd_zip (by omega)]
          show LeV (.mapf ks vs) (.mapf (keysM (a.zip b)) (valsM (a.zip b)))
          rw [e1, e2]
          obtain ⟨g1, g2⟩ := decL_get h2
          refine .mapf (by simp [g1]) fun j v v' hv hv' => ?_
          simp only [List.getElem?_map, Option.map_eq_some_iff] at hv'
          obtain ⟨x, hx, rfl⟩ := hv'
          exact (Cod.le _ _ (g2 j v x hv hx)).le
        · cases h
      · cases h
    · cases h
@[go_sem ↓] theorem enc_km [Cod α] (m : List (κ × α)) : Cod.enc (⟨some m⟩ : KM κ α) = .mapf (keysM m) (valsM m) := nd rfl
@[go_sem ↓] theorem enc_km0 [Cod α] : Cod.enc (⟨none⟩ : KM κ α) = .sc (.map none) := nd rfl
@[go_sem ↓] theorem dec_km0 [Cod α] : (Cod.dec (.sc (.map none)) : Option (KM κ α)) = some ⟨none⟩ := nd rfl
@[go_sem] theorem dec_km [Cod α] (m : List (κ × α)) : (Cod.dec (.mapf (keysM m) (valsM m)) : Option (KM κ α)) = some ⟨some m⟩ := Cod.dec_enc (⟨some m⟩ : KM κ α)
end

/-! ### Keys that are strings, keys of three cells -/
@[go_sem] theorem idxI_str {α : Type} (m : List (ByteArray × α)) (s : ByteArray) : idxI false [.s] (.string s) (keysM m) = some (fidx m s) := idxI_typed m s
@[go_sem] theorem idxI_key {α : Type} (m : List (KeyD × α)) (x y : ByteArray) (n : Int) : idxI true [.s, .s, .i .i64] (.agg #[.string x, .string y, .int .i64 n]) (keysM m) = some (fidx m ⟨x, y, n⟩) := idxI_typed m ⟨x, y, n⟩
@[go_sem] theorem kvOf_key (x y : ByteArray) (n : Int) : kvOf true (.agg [.sc (.string x), .sc (.string y), .sc (.int .i64 n)]) = some (.agg #[.string x, .string y, .int .i64 n]) := nd rfl
@[go_sem] theorem putF_strB (id : Nat) (s : ByteArray) (b : Bool) (m : List (ByteArray × Bool)) : putF' id (.string s) (.sc (.bool b)) (keysM m) (valsM m) (some (fidx m s)) = some (.any, [(id, .ext (.map (keysM (putM m s b)) (valsM (putM m s b))))]) := putF_typed id _ _ m s b rfl rfl

end Go.Idl

/-
  Rules of the walk: slices that are made, cut and appended to.
-/
namespace Go.Idl
set_option linter.all false
open Go.RowKit
variable [Laid]

variable {P : Program} {Φ : Specs} (n : Nat) (τ : Nat → V) (H : Heap)

/-! ### Making -/
def mksI (n sz bytes : Nat) (z : V) : V → V → Obj → Option (V × List (Nat × Obj))
  | .sc (.int .i64 l), .sc (.int .i64 c), .unborn => if 0 ≤ l ∧ l ≤ c ∧ c ≤ 4294967296 ∧ bytes * c.toNat ≤ 281474976710656 then some (.own n 0 l.toNat, [(n, .live sz (List.replicate l.toNat z) true)]) else none
  | _, _, _ => none
@[congr] theorem mksI_congr {n sz bytes : Nat} {z l l' c c' : V} {o o' : Obj} (h1 : l = l') (h2 : c = c') (h3 : o = o') : mksI n sz bytes z l c o = mksI n sz bytes z l' c' o' := by rw [h1, h2, h3]
@[go_sem ↓] theorem ev_mks (sz bytes : Nat) (z : V) (l c : A) : evIO P Φ n τ H (.mks sz bytes z l c) = mksI n sz bytes z (l.get τ) (c.get τ) (H n) := by
  simp only [evIO]
  generalize l.get τ = vl
  generalize c.get τ = vc
  generalize H n = ob
  cases ob <;> cases vl with
  | sc u => cases u with
    | int k a => cases k <;> cases vc with
      | sc u' => cases u' with
        | int k' a' => cases k' <;> rfl
        | _ => rfl
      | _ => rfl
    | _ => cases vc <;> rfl
  | _ => cases vc <;> rfl
@[go_sem ↓] theorem mksI_at (sz bytes : Nat) (z : V) (l c : Int) : mksI n sz bytes z (.sc (.int .i64 l)) (.sc (.int .i64 c)) .unborn = if 0 ≤ l ∧ l ≤ c ∧ c ≤ 4294967296 ∧ bytes * c.toNat ≤ 281474976710656 then some (.own n 0 l.toNat, [(n, .live sz (List.replicate l.toNat z) true)]) else none := nd rfl

/-! ### What a slice holds -/
def elemsO (sz off len : Nat) : Obj → Option (List V)
  | .live s es _ => if s = sz ∧ off + len ≤ es.length then some ((es.drop off).take len) else none
  | _ => none
@[go_sem ↓] theorem news_slice (sz s : Nat) (es : List V) : news H sz (.slice s es) = if s = sz ∨ es = [] then some es else none := nd rfl
@[go_sem ↓] theorem news_own (sz id off len : Nat) : news H sz (.own id off len) = elemsO sz off len (H id) := by
  simp only [news, V.elems]
  generalize H id = ob
  cases ob <;> rfl
@[go_sem ↓] theorem elemsO_live (sz off len s : Nat) (es : List V) (mu : Bool) : elemsO sz off len (.live s es mu) = if s = sz ∧ off + len ≤ es.length then some ((es.drop off).take len) else none := nd rfl
@[go_sem ↓] theorem news_mt (sz : Nat) : news H sz .mt = some [] := nd rfl
@[go_sem ↓] theorem news_nil (sz : Nat) : news H sz (.sc (.slice none 0 0)) = some [] := nd rfl
@[go_sem ↓] theorem news_str (sz : Nat) (s : ByteArray) : news H sz (.sc (.string s)) = if sz = 1 then some (s.data.toList.map fun b => .sc (.int .u8 b.toNat)) else none := nd rfl

/-! ### Appending -/
def appO (n sz bytes : Nat) (ys : List V) (id off len : Nat) : Obj → Option (V × List (Nat × Obj))
  | .live s es mu => if s = sz ∧ off + len = es.length ∧ (len + ys.length) * bytes ≤ 68719476736 ∧ len + ys.length ≤ 4294967296 ∧ ys.all (okE sz) = true then some (.own n 0 (len + ys.length), [(id, .dead), (n, .live sz (es.drop off ++ ys) mu)]) else none
  | _ => none
def appI (H : Heap) (n sz bytes : Nat) : Option (List V) → V → Obj → Option (V × List (Nat × Obj))
  | some ys, .own id off len, .unborn => appO n sz bytes ys id off len (H id)
  | some ys, .mt, .unborn => if ys.length * bytes ≤ 68719476736 ∧ ys.length ≤ 4294967296 ∧ ys.all (okE sz) = true then some (.own n 0 ys.length, [(n, .live sz ys true)]) else none
  | some ys, .sc (.slice none 0 0), .unborn => if ys.length * bytes ≤ 68719476736 ∧ ys.length ≤ 4294967296 ∧ ys.all (okE sz) = true then some (.own n 0 ys.length, [(n, .live sz ys true)]) else none
  | _, _, _ => none
@[congr] theorem appI_congr {H : Heap} {n sz bytes : Nat} {ys ys' : Option (List V)} {x x' : V} {o o' : Obj} (h1 : ys = ys') (h2 : x = x') (h3 : o = o') : appI H n sz bytes ys x o = appI H n sz bytes ys' x' o' := by rw [h1, h2, h3]
@[go_sem ↓] theorem ev_app (sz bytes : Nat) (x y : A) : evIO P Φ n τ H (.app sz bytes x y) = appI H n sz bytes (news H sz (y.get τ)) (x.get τ) (H n) := by
  simp only [evIO]
  generalize news H sz (y.get τ) = ys
  generalize x.get τ = vx
  generalize H n = ob
  cases ob <;> cases ys with
  | none => cases vx with
    | sc u => cases u <;> rfl
    | _ => rfl
  | some ys => cases vx with
    | own id off len =>
      first | rfl | (simp only [appI, Option.bind_some]; generalize H id = ob2; cases ob2 <;> rfl)
    | sc u => cases u with
      | slice a b c => cases a <;> cases b <;> cases c <;> rfl
      | _ => rfl
    | _ => rfl
@[go_sem ↓] theorem appI_own (sz bytes : Nat) (ys : List V) (id off len : Nat) : appI H n sz bytes (some ys) (.own id off len) .unborn = appO n sz bytes ys id off len (H id) := nd rfl
@[go_sem ↓] theorem appO_live (sz bytes : Nat) (ys : List V) (id off len s : Nat) (es : List V) (mu : Bool) : appO n sz bytes ys id off len (.live s es mu) = if s = sz ∧ off + len = es.length ∧ (len + ys.length) * bytes ≤ 68719476736 ∧ len + ys.length ≤ 4294967296 ∧ ys.all (okE sz) = true then some (.own n 0 (len + ys.length), [(id, .dead), (n, .live sz (es.drop off ++ ys) mu)]) else none := nd rfl
@[go_sem ↓] theorem appI_mt (sz bytes : Nat) (ys : List V) : appI H n sz bytes (some ys) .mt .unborn = if ys.length * bytes ≤ 68719476736 ∧ ys.length ≤ 4294967296 ∧ ys.all (okE sz) = true then some (.own n 0 ys.length, [(n, .live sz ys true)]) else none := nd rfl
@[go_sem ↓] theorem appI_nil (sz bytes : Nat) (ys : List V) : appI H n sz bytes (some ys) (.sc (.slice none 0 0)) .unborn = if ys.length * bytes ≤ 68719476736 ∧ ys.length ≤ 4294967296 ∧ ys.all (okE sz) = true then some (.own n 0 ys.length, [(n, .live sz ys true)]) else none := nd rfl

/-! ### Cutting -/
@[go_sem ↓] theorem bound_none (d : Nat) : bound d none = some d := nd rfl
@[go_sem ↓] theorem bound_int (d : Nat) (k : IntKind) (j : Int) : bound d (some (.sc (.int k j))) = if 0 ≤ j then some j.toNat else none := nd rfl
def slI (e : Option (V × List (Nat × Obj))) (H : Heap) (sz : Nat) (lo hi mx : Option V) : V → Option (V × List (Nat × Obj))
  | .sc (.string _) => e
  | v => evSliceI H sz v lo hi mx
@[congr] theorem slI_congr {e : Option (V × List (Nat × Obj))} {H : Heap} {sz : Nat} {lo lo' hi hi' mx mx' : Option V} {x x' : V} (h1 : lo = lo') (h2 : hi = hi') (h3 : mx = mx') (h4 : x = x') : slI e H sz lo hi mx x = slI e H sz lo' hi' mx' x' := by rw [h1, h2, h3, h4]
@[go_sem ↓] theorem ev_sl (sz : Nat) (x : A) (lo hi mx : Option A) (o : Oper) : evIO P Φ n τ H (.sl sz x lo hi mx o) = slI (evPure P (opd τ) o) H sz (lo.map (A.get τ)) (hi.map (A.get τ)) (mx.map (A.get τ)) (x.get τ) := by
  simp only [evIO]
  generalize x.get τ = vx
  cases vx with
  | sc u => cases u <;> rfl
  | _ => rfl
def sl0 (sz s : Nat) (es : List V) : Option Nat → Option Nat → Option (V × List (Nat × Obj))
  | some l, some r => if l ≤ r ∧ r ≤ es.length ∧ s = sz then some (.slice sz ((es.take r).drop l), []) else none
  | _, _ => none
@[go_sem ↓] theorem slI_slice (e : Option (V × List (Nat × Obj))) (sz s : Nat) (es : List V) (lo hi : Option V) : slI e H sz lo hi none (.slice s es) = sl0 sz s es (bound 0 lo) (bound es.length hi) := by
  simp only [slI, evSliceI, V.len, Option.bind_some]
  cases bound 0 lo with
  | none => rfl
  | some l => cases bound es.length hi with
    | none => rfl
    | some r =>
      simp only [Option.bind_some, sl0, bound, Nat.le_refl, true_and]
      by_cases h1 : l ≤ r ∧ r ≤ es.length
      · by_cases h2 : s = sz <;> simp [h1, h2]
      · rw [if_neg h1, if_neg (fun h => h1 ⟨h.1, h.2.1⟩)]
@[go_sem ↓] theorem sl0_some (sz s : Nat) (es : List V) (l r : Nat) : sl0 sz s es (some l) (some r) = if l ≤ r ∧ r ≤ es.length ∧ s = sz then some (.slice sz ((es.take r).drop l), []) else none := nd rfl
@[congr] theorem sl0_congr {sz s : Nat} {es : List V} {l l' r r' : Option Nat} (h1 : l = l') (h2 : r = r') : sl0 sz s es l r = sl0 sz s es l' r' := by rw [h1, h2]
def slO (sz id off len : Nat) : Option Nat → Option Nat → Obj → Option (V × List (Nat × Obj))
  | some l, some r, .live s _ _ => if l ≤ r ∧ r ≤ len ∧ s = sz then some (.own id (off + l) (r - l), []) else none
  | _, _, _ => none
@[congr] theorem slO_congr {sz id off len : Nat} {l l' r r' : Option Nat} {o o' : Obj} (h1 : l = l') (h2 : r = r') (h3 : o = o') : slO sz id off len l r o = slO sz id off len l' r' o' := by rw [h1, h2, h3]
@[go_sem ↓] theorem slI_own (e : Option (V × List (Nat × Obj))) (sz id off len : Nat) (lo hi : Option V) : slI e H sz lo hi none (.own id off len) = slO sz id off len (bound 0 lo) (bound len hi) (H id) := by
  simp only [slI, evSliceI, V.len, Option.bind_some]
  generalize H id = ob
  cases bound 0 lo with
  | none => rfl
  | some l => cases bound len hi with
    | none => rfl
    | some r =>
      simp only [Option.bind_some, bound, Nat.le_refl, true_and]
      cases ob with
      | live s es mu =>
        simp only [slO]
        by_cases h1 : l ≤ r ∧ r ≤ len
        · by_cases h2 : s = sz <;> simp [h1, h2]
        · rw [if_neg h1, if_neg (fun h => h1 ⟨h.1, h.2.1⟩)]
      | _ => simp only [slO]; split <;> rfl
@[go_sem ↓] theorem slO_live (sz id off len l r s : Nat) (es : List V) (mu : Bool) : slO sz id off len (some l) (some r) (.live s es mu) = if l ≤ r ∧ r ≤ len ∧ s = sz then some (.own id (off + l) (r - l), []) else none := nd rfl
/-- With a third bound. -/
def slO4 (H : Heap) (sz id off len l r : Nat) : Obj → Option (V × List (Nat × Obj))
  | .live s es _ => if s = sz ∧ off + len ≤ es.length ∧ es.all V.isF = true then some (.slice sz ((es.drop (off + l)).take (r - l)), froze H [id]) else none
  | _ => none
@[go_sem ↓] theorem slO4_live (sz id off len l r s : Nat) (es : List V) (mu : Bool) : slO4 H sz id off len l r (.live s es mu) = if s = sz ∧ off + len ≤ es.length ∧ es.all V.isF = true then some (.slice sz ((es.drop (off + l)).take (r - l)), froze H [id]) else none := nd rfl
def slO3 (H : Heap) (sz id off len : Nat) (ob : Obj) : Option Nat → Option Nat → Option Nat → Option (V × List (Nat × Obj))
  | some l, some r, some m => if l ≤ r ∧ r ≤ m ∧ m ≤ len then (if l = m then some (.mt, []) else slO4 H sz id off len l r ob) else none
  | _, _, _ => none
@[congr] theorem slO3_congr {H : Heap} {sz id off len : Nat} {l l' r r' m m' : Option Nat} {o : Obj} (h1 : l = l') (h2 : r = r') (h3 : m = m') : slO3 H sz id off len o l r m = slO3 H sz id off len o l' r' m' := by rw [h1, h2, h3]
@[go_sem ↓] theorem slO3_some (sz id off len l r m : Nat) (ob : Obj) : slO3 H sz id off len ob (some l) (some r) (some m) = if l ≤ r ∧ r ≤ m ∧ m ≤ len then (if l = m then some (.mt, []) else slO4 H sz id off len l r ob) else none := nd rfl
@[go_sem ↓] theorem slI_own3 (e : Option (V × List (Nat × Obj))) (sz id off len : Nat) (lo : Option V) (hi mx : V) : slI e H sz lo (some hi) (some mx) (.own id off len) = slO3 H sz id off len (H id) (bound 0 lo) (bound len (some hi)) (bound 0 (some mx)) := by
  simp only [slI, evSliceI, V.len, Option.bind_some]
  have hb : ∀ d, bound d (some mx) = bound 0 (some mx) := fun d => by
    cases mx with
    | sc u => cases u <;> rfl
    | _ => rfl
  cases bound 0 lo with
  | none => rfl
  | some l => cases bound len (some hi) with
    | none => rfl
    | some r =>
      simp only [Option.bind_some, hb]
      cases bound 0 (some mx) with
      | none => rfl
      | some m =>
        simp only [Option.bind_some, slO3, Option.isNone_some, Bool.false_eq_true, if_false, V.isSl, if_true]
        split
        · split
          · rfl
          · generalize hob : H id = ob
            cases ob <;> rfl
        · rfl

end Go.Idl

/-
  Rules of the walk: the greater and the lesser of two numbers.
-/
namespace Go.Idl
set_option linter.all false
open Go.RowKit
variable [Laid]

variable {P : Program} {Φ : Specs} (n : Nat) (τ : Nat → V) (H : Heap)
def mmI (f : Int → Int → Int) (e : Option (V × List (Nat × Obj))) (x y : V) : Option (V × List (Nat × Obj)) :=
  match x, y with
  | .sc (.int k a), .sc (.int _ b) => some (.sc (.int k (f a b)), [])
  | _, _ => e
@[congr] theorem mmI_congr {f : Int → Int → Int} {e : Option (V × List (Nat × Obj))} {x x' y y' : V} (h1 : x = x') (h2 : y = y') : mmI f e x y = mmI f e x' y' := by rw [h1, h2]
@[go_sem ↓] theorem mmI_int (f : Int → Int → Int) (e : Option (V × List (Nat × Obj))) (k k' : IntKind) (a b : Int) : mmI f e (.sc (.int k a)) (.sc (.int k' b)) = some (.sc (.int k (f a b)), []) := nd rfl
theorem max_at {ρ : Operand → V} {x y : Operand} {ts : Array TypeId} {ty : Nat} {k k' : IntKind} {a b : Int} (hx : ρ x = .sc (.int k a)) (hy : ρ y = .sc (.int k' b)) :
    evPure P ρ (pu (.call ⟨.builtin .max, #[x, y], ts⟩) ty) = some (.sc (.int k (max a b)), []) := by
  refine evPure_of (v := .int k (max a b)) ?_ (by simp [pu]) ?_
  · simp [pu, Op.operands, Call.operands, hx, hy, V.conc]
  · have : (if b > a then b else a) = max a b := by split <;> omega
    simp [pu, execOp, resolve, hx, hy, V.conc, runPure_bind, runPure_pure, invoke, builtin, Builtin.max_, Builtin.max2, this]
theorem min_at {ρ : Operand → V} {x y : Operand} {ts : Array TypeId} {ty : Nat} {k k' : IntKind} {a b : Int} (hx : ρ x = .sc (.int k a)) (hy : ρ y = .sc (.int k' b)) :
    evPure P ρ (pu (.call ⟨.builtin .min, #[x, y], ts⟩) ty) = some (.sc (.int k (min a b)), []) := by
  refine evPure_of (v := .int k (min a b)) ?_ (by simp [pu]) ?_
  · simp [pu, Op.operands, Call.operands, hx, hy, V.conc]
  · have : (if b < a then b else a) = min a b := by split <;> omega
    simp [pu, execOp, resolve, hx, hy, V.conc, runPure_bind, runPure_pure, invoke, builtin, Builtin.min_, Builtin.min2, this]
theorem max_mm {x y : Operand} {ts : Array TypeId} {ty : Nat} : evIO P Φ n τ H (.pur (pu (.call ⟨.builtin .max, #[x, y], ts⟩) ty)) = mmI max (evStuck P Φ n τ H (.pur (pu (.call ⟨.builtin .max, #[x, y], ts⟩) ty))) (opd τ x) (opd τ y) := by
  unfold mmI
  split
  · rename_i h1 h2; exact max_at h1 h2
  · rfl
theorem min_mm {x y : Operand} {ts : Array TypeId} {ty : Nat} : evIO P Φ n τ H (.pur (pu (.call ⟨.builtin .min, #[x, y], ts⟩) ty)) = mmI min (evStuck P Φ n τ H (.pur (pu (.call ⟨.builtin .min, #[x, y], ts⟩) ty))) (opd τ x) (opd τ y) := by
  unfold mmI
  split
  · rename_i h1 h2; exact min_at h1 h2
  · rfl
@[go_sem ↓] theorem ev_max_tt (a b ty : Nat) (ts : Array TypeId) : evIO P Φ n τ H (.pur (pu (.call ⟨.builtin .max, #[.tmp a, .tmp b], ts⟩) ty)) = mmI max (evStuck P Φ n τ H (.pur (pu (.call ⟨.builtin .max, #[.tmp a, .tmp b], ts⟩) ty))) (τ a) (τ b) := max_mm n τ H
@[go_sem ↓] theorem ev_max_tk (a ty : Nat) (k : IntKind) (j : Int) (ts : Array TypeId) : evIO P Φ n τ H (.pur (pu (.call ⟨.builtin .max, #[.tmp a, .const (.int k j)], ts⟩) ty)) = mmI max (evStuck P Φ n τ H (.pur (pu (.call ⟨.builtin .max, #[.tmp a, .const (.int k j)], ts⟩) ty))) (τ a) (.sc (.int k j)) := max_mm n τ H
@[go_sem ↓] theorem ev_max_kt (b ty : Nat) (k : IntKind) (j : Int) (ts : Array TypeId) : evIO P Φ n τ H (.pur (pu (.call ⟨.builtin .max, #[.const (.int k j), .tmp b], ts⟩) ty)) = mmI max (evStuck P Φ n τ H (.pur (pu (.call ⟨.builtin .max, #[.const (.int k j), .tmp b], ts⟩) ty))) (.sc (.int k j)) (τ b) := max_mm n τ H
@[go_sem ↓] theorem ev_min_tt (a b ty : Nat) (ts : Array TypeId) : evIO P Φ n τ H (.pur (pu (.call ⟨.builtin .min, #[.tmp a, .tmp b], ts⟩) ty)) = mmI min (evStuck P Φ n τ H (.pur (pu (.call ⟨.builtin .min, #[.tmp a, .tmp b], ts⟩) ty))) (τ a) (τ b) := min_mm n τ H
@[go_sem ↓] theorem ev_min_tk (a ty : Nat) (k : IntKind) (j : Int) (ts : Array TypeId) : evIO P Φ n τ H (.pur (pu (.call ⟨.builtin .min, #[.tmp a, .const (.int k j)], ts⟩) ty)) = mmI min (evStuck P Φ n τ H (.pur (pu (.call ⟨.builtin .min, #[.tmp a, .const (.int k j)], ts⟩) ty))) (τ a) (.sc (.int k j)) := min_mm n τ H
@[go_sem ↓] theorem ev_min_kt (b ty : Nat) (k : IntKind) (j : Int) (ts : Array TypeId) : evIO P Φ n τ H (.pur (pu (.call ⟨.builtin .min, #[.const (.int k j), .tmp b], ts⟩) ty)) = mmI min (evStuck P Φ n τ H (.pur (pu (.call ⟨.builtin .min, #[.const (.int k j), .tmp b], ts⟩) ty))) (.sc (.int k j)) (τ b) := min_mm n τ H
end Go.Idl

/-
  Bytes as a string.
-/
namespace Go.Idl
set_option linter.all false
open Go.RowKit
variable [Laid]

def strOf (ns : List Int) : ByteArray := ns.foldl (fun r n => r.push (UInt8.ofNat n.toNat)) ByteArray.empty
def bytV : List V → Option (List Int)
  | [] => some []
  | .sc (.int .u8 n) :: vs => (bytV vs).map (n :: ·)
  | _ => none
theorem bytV_get : ∀ {ys : List V} {ns : List Int}, bytV ys = some ns → ys = ns.map fun n => .sc (.int .u8 n)
  | [], ns, h => by simp [bytV] at h; subst h; rfl
  | y :: ys, ns, h => by
    unfold bytV at h
    split at h
    · rename_i h0; cases h0
    · rename_i n vs heq
      cases heq
      rw [Option.map_eq_some_iff] at h
      obtain ⟨l, h1, rfl⟩ := h
      rw [bytV_get h1]; rfl
    · cases h
variable {P : Program} {C : Ctx}
/-! ### Pointers that are not nil -/
def nckI (e : Option (V × List (Nat × Obj))) : V → Option (V × List (Nat × Obj))
  | .ref id idx off => some (.ref id idx off, [])
  | .elem x off => some (.elem x off, [])
  | _ => e
@[congr] theorem nckI_congr {e : Option (V × List (Nat × Obj))} {x x' : V} (h : x = x') : nckI e x = nckI e x' := by rw [h]
@[go_sem ↓] theorem ev_nck {Φ : Specs} (n : Nat) (τ : Nat → V) (H : Heap) (x : A) (o : Oper) : evIO P Φ n τ H (.nck x o) = nckI (evStuck P Φ n τ H (.nck x o)) (x.get τ) := by
  unfold evStuck
  simp only [evIO]
  generalize x.get τ = v
  cases v <;> rfl
@[go_sem ↓] theorem nckI_ref (e : Option (V × List (Nat × Obj))) (id idx off : Nat) : nckI e (.ref id idx off) = some (.ref id idx off, []) := nd rfl
@[go_sem ↓] theorem nckI_elem (e : Option (V × List (Nat × Obj))) (x : V) (off : Nat) : nckI e (.elem x off) = some (.elem x off, []) := nd rfl
theorem opT_bytes {tb ts e : TypeId} {ty : Nat} (hb : P.underlying tb = some (.slice e)) (he : P.underlying e = some (.int .u8)) (hs : P.underlying ts = some .string) {τ : Nat → V} {H : Heap} {n k id off len : Nat} {ys : List V} {ns : List Int} {K : V → SF → Prop}
    (hx : τ k = .own id off len) (hn : news H 1 (.own id off len) = some ys) (hv : bytV ys = some ns) (hk : K (.sc (.string (strOf ns))) ⟨τ, H, n⟩) : OpT P C (pu (.convert tb ts (.tmp k)) ty) ⟨τ, H, n⟩ K := by
  intro tm ds w γ I hS
  left
  have hr : Rep I w γ (.own id off len) ((⟨tm, ds⟩ : Act).eval (.tmp k)) := by
    have := hS.opd ds (.tmp k)
    simp only [opd] at this
    rw [hx] at this
    exact this
  have hys := bytV_get hv
  obtain ⟨nl, hsrc⟩ := src_rep (P := P) hS (sz := 1) (by decide) (ids := [id]) (x := .own id off len) (ys := ys) (by rw [news_only (by simp [V.ids])]; exact hn) hr (by rw [hys]; simp [V.cells])
  have hnl : nl = ns.map (Value.int .u8) := by
    apply List.ext_getElem?
    intro i
    have h1 := hsrc.len
    rw [Nat.mul_one] at h1
    have h2 : ys.length = ns.length := by rw [hys]; simp
    by_cases hi : i < ys.length
    · obtain ⟨n0, hn0⟩ : ∃ n0, ns[i]? = some n0 := ⟨ns[i]'(by omega), by simp⟩
      have hy0 : ys[i]? = some (.sc (.int .u8 n0)) := by rw [hys, List.getElem?_map, hn0]; rfl
      obtain ⟨u, hu, hru⟩ := hsrc.cell i 0 (.sc (.int .u8 n0)) (.sc (.int .u8 n0)) hy0 rfl
      have := hru.sc_eq
      subst this
      simp only [Nat.mul_one, Nat.add_zero] at hu
      rw [hu, List.getElem?_map, hn0]; rfl
    · rw [List.getElem?_eq_none (by omega), List.getElem?_eq_none (by simp; omega)]
  refine ⟨.string (strOf ns), w, .sc (.string (strOf ns)), ⟨τ, H, n⟩, γ, I, ?_, hk, hS, .sc _ _⟩
  have hf := hsrc.first w (fun _ => rfl)
  have hc := hsrc.count w
  generalize hu : (⟨tm, ds⟩ : Act).eval (.tmp k) = u at hr hsrc hf hc
  have key : (convert tb ts u).run P w = .ok (.string (strOf ns)) w := by
    cases hr with
    | own _ _ _ _ cap p c t hp hcap hbl hroom =>
      rw [run_convert_bytes_string w tb ts e _ _ _ hb he hs]
      have hl : ys.length = len := by simpa [Builtin.lenOf, Sem.run_pure] using hc.symm
      refine run_bytesToString w _ len cap ns ?_
      rw [← hnl, ← hl]
      simpa [Builtin.firstCells] using hf
    | own0 _ _ _ A =>
      rw [run_convert_bytes_string w tb ts e _ _ _ hb he hs]
      have hl : ys.length = 0 := by simpa [Builtin.lenOf, Sem.run_pure] using hc.symm
      have h0 : ns = [] := by
        have : ys.length = ns.length := by rw [hys]; simp
        exact List.eq_nil_of_length_eq_zero (by omega)
      subst h0
      cases A with
      | none => simp [Conv.bytesToString, Sem.run_pure, strOf]
      | some a => exact run_bytesToString w a 0 0 [] (by simp [loadCells, loadCellsFrom, Sem.run_pure])
  simp only [pu, execOp, Act.eval] at hu ⊢
  simp only [hu, Sem.run_bind, key, Result.andThen, Sem.run_pure]
/-- The step of the walk at such a conversion. -/
theorem stepI_bytes {Φ : Specs} {Q : SF → Prop} {rest : List IOp} {d : Nat} {tb ts e : TypeId} {ty : Nat} (hb : P.underlying tb = some (.slice e)) (he : P.underlying e = some (.int .u8)) (hs : P.underlying ts = some .string) {τ : Nat → V} {H : Heap} {n k id off len : Nat} {ys : List V} {ns : List Int} {E : Option (V × List (Nat × Obj))}
    (hx : τ k = .own id off len) (hn : news H 1 (.own id off len) = some ys) (hv : bytV ys = some ns) (hE : E = none) (h : seqI P Φ C Q rest ⟨updT τ d (.sc (.string (strOf ns))), H, n⟩) :
    stepI P Φ C Q rest (some d) (some (.pur (pu (.convert tb ts (.tmp k)) ty))) τ H n E := by
  subst hE
  exact opT_bytes (P := P) (C := C) (K := fun v s' => seqI P Φ C Q rest ⟨updT τ d v, s'.H, s'.n⟩) hb he hs hx hn hv h
theorem conv_none {Φ : Specs} {d d' : Option TypeDesc} {t t' : TypeId} {ty : Nat} {τ : Nat → V} {H : Heap} {n k id off len : Nat} (hx : τ k = .own id off len) : convI d d' (evStuck P Φ n τ H (.pur (pu (.convert t t' (.tmp k)) ty))) (.own id off len) = none := by
  have : evStuck P Φ n τ H (.pur (pu (.convert t t' (.tmp k)) ty)) = none := by
    simp only [evStuck, evIO, evPure]
    rw [if_neg]
    simp [pu, Op.operands, opd, hx, V.conc]
  unfold convI
  split
  · rename_i h; cases h
  · exact this
end Go.Idl

