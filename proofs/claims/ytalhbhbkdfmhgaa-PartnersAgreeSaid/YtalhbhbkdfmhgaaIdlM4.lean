import Derived.Test.YtalhbhbkdfmhgaaIdlM3
import Derived.Laws.BytesString
import Derived.RangeFuncLeaves
import Derived.RangeFuncRecord
import Derived.Maps.RangeRun
import Derived.Laws.IdiomStrings
namespace Go.Idl
set_option linter.all false
open Go.RowKit
variable [Laid]
def V.bkA (f : Nat → Option (Option Nat)) : V → Option V
  | .own id off len => match f id with
    | some (some k) => some (.own k off len)
    | some none => if len = 0 then some (.sc (.slice none 0 0)) else none
    | none => none
  | .ref id idx off => match f id with
    | some (some k) => some (.ref k idx off)
    | _ => none
  | .mapr id => match f id with
    | some (some k) => some (.mapr k)
    | _ => none
  | .any => some .any
  | .sc v => some (.sc v)
  | .slice s es => some (.slice s es)
  | .mt => some .mt
  | .mapf ks vs => some (.mapf ks vs)
  | .elem e off => some (.elem e off)
  | _ => none
def bkL (f : V → Option V) : List V → Option (List V)
  | [] => some []
  | v :: vs => match f v, bkL f vs with
    | some x, some xs => some (x :: xs)
    | _, _ => none
def V.bkC (f : Nat → Option (Option Nat)) : V → Option V
  | .fn g xs ys => match bkL (V.bkA f) xs, bkL (V.bkA f) ys with
    | some xs', some ys' => some (.fn g xs' ys')
    | _, _ => none
  | v => v.bkA f
def V.bk (f : Nat → Option (Option Nat)) : V → Option V
  | .agg cs => (bkL (V.bkC f) cs).map .agg
  | v => v.bkC f
def renP (γ : Places) (f : Nat → Option (Option Nat)) : Places := fun id => match f id with
  | some (some k) => γ k
  | _ => none
variable {C : Ctx} {γ : Places} {I : Imm} {τ : Nat → V} {H : Heap} {tm : Array Value} {w : World} {ids : Nat → Option (Option Nat)}
theorem bkL_get {f : V → Option V} : ∀ {xs ys : List V}, bkL f xs = some ys → ys.length = xs.length ∧ ∀ (j : Nat) (x : V), xs[j]? = some x → ∃ y, ys[j]? = some y ∧ f x = some y
  | [], ys, h => by cases h; simp
  | x :: xs, ys, h => by
    simp only [bkL] at h
    split at h
    · rename_i a l h1 h2
      cases h
      obtain ⟨e1, e2⟩ := bkL_get h2
      refine ⟨by simp [e1], fun j z hz => ?_⟩
      cases j with
      | zero => simp at hz; subst hz; exact ⟨a, rfl, h1⟩
      | succ j => exact e2 j z (by simpa using hz)
    · cases h
theorem Rep.bkA {x y : V} {u : Value} (hb : x.bkA ids = some y) (h : Rep I w γ y u) : Rep I w (renP γ ids) x u := by
  cases x <;> simp only [V.bkA] at hb
  case own id off len =>
    split at hb
    · rename_i k hk
      cases hb
      cases h with
      | own _ _ _ _ cap p c t m hp hcap hbl hroom => exact .own _ _ _ _ _ p c t m (by simp [renP, hk, hp]) hcap hbl hroom
      | own0 => exact .own0 _ _ _ _
    · split at hb
      · rename_i hl
        cases hb
        subst hl
        cases h.sc_eq
        exact .own0 _ _ _ _
      · cases hb
    · cases hb
  case ref id idx off =>
    split at hb
    · rename_i k hk
      cases hb
      cases h with
      | ref _ _ _ _ p hp => exact .ref _ _ _ _ p (by simp [renP, hk, hp])
    · cases hb
  case mapr id =>
    split at hb
    · rename_i k hk
      cases hb
      cases h with
      | mapr _ _ p hp => exact .mapr _ _ p (by simp [renP, hk, hp])
    · cases hb
  case any => cases hb; exact .any _ _
  case sc v => cases hb; cases h.sc_eq; exact .sc _ _
  case slice s es =>
    cases hb
    cases h with
    | nilslice => exact .nilslice _ _ _ _
    | slice _ _ _ g o cap f hcap hsz hc h => exact .slice _ _ _ g o cap f hcap hsz hc h
  case mt => cases hb; cases h; exact .mt _ _
  case mapf => 
    cases hb
    cases h with
    | mapf _ ks vs r clock ents hI hr hl' hk h => exact .mapf _ _ _ _ _ _ hI hr hl' hk h
  case elem =>
    cases hb
    cases h with
    | elem _ e off g o f hc h => exact .elem _ _ _ _ _ f hc h
  all_goals cases hb
theorem Rep.bkC {x y : V} {u : Value} (hb : x.bkC ids = some y) (h : Rep I w γ y u) : Rep I w (renP γ ids) x u := by
  cases x with
  | fn f xs ys =>
    simp only [V.bkC] at hb
    split at hb
    · rename_i xs' ys' h1 h2
      cases hb
      obtain ⟨l1, g1⟩ := bkL_get h1
      obtain ⟨l2, g2⟩ := bkL_get h2
      cases h with
      | fn _ _ _ _ us vs e1 e2 e3 e4 =>
        refine .fn _ _ _ _ us vs (by omega) (by omega) (fun j c u hc hu => ?_) fun j c u hc hu => ?_
        · obtain ⟨y, hy, hf⟩ := g1 j c hc; exact (e3 j y u hy hu).bkA hf
        · obtain ⟨y, hy, hf⟩ := g2 j c hc; exact (e4 j y u hy hu).bkA hf
    · cases hb
  | _ => exact Rep.bkA (by simpa only [V.bkC] using hb) h
theorem Rep.bk {x y : V} {u : Value} (hb : x.bk ids = some y) (h : Rep I w γ y u) : Rep I w (renP γ ids) x u := by
  cases x with
  | agg cs =>
    simp only [V.bk, Option.map_eq_some_iff] at hb
    obtain ⟨cs', hcs, rfl⟩ := hb
    obtain ⟨l1, g1⟩ := bkL_get hcs
    cases h with
    | agg _ _ vs hlen hh =>
      refine .agg _ _ _ (by omega) fun j c u hc hu => ?_
      obtain ⟨y, hy, hf⟩ := g1 j c hc
      exact (hh j y u hy hu).bkC hf
  | _ => exact Rep.bkC (by simpa only [V.bk] using hb) h
theorem cut_ren {m0 : Nat} (h0 : ∀ i, i < m0 → ids i = some (some i)) : ∀ id p, cutP γ m0 id = some p → renP γ ids id = some p := fun id p hp => by
  unfold cutP at hp
  split at hp
  · rename_i hlt; simp only [renP, h0 id hlt]; exact hp
  · cases hp
theorem Rep.closed {m0 : Nat} (h0 : ∀ i, i < m0 → ids i = some (some i)) {x : V} {u : Value} (hl : x.low m0 = true) (h : Rep I w γ x u) : Rep I w (renP γ ids) x u :=
  (h.low hl).mono (Pres.refl I w) (fun _ _ h => h) (cut_ren h0)
theorem Rep.closedC {m0 : Nat} (h0 : ∀ i, i < m0 → ids i = some (some i)) {x : V} {u : Value} (hl : x.lowC m0 = true) (h : Rep I w γ x u) : Rep I w (renP γ ids) x u :=
  (h.lowC hl).mono (Pres.refl I w) (fun _ _ h => h) (cut_ren h0)
def idsOk (ids : List (Option Nat)) : Prop := ∀ i j k : Nat, ids[i]? = some (some k) → ids[j]? = some (some k) → i = j
def idsB : List (Option Nat) → Bool
  | [] => true
  | none :: l => idsB l
  | some k :: l => !l.contains (some k) && idsB l
theorem idsB_ok : ∀ {ids : List (Option Nat)}, idsB ids = true → idsOk ids
  | [], _ => fun i j k h => by simp at h
  | x :: l, h => by
    have hl : idsB l = true := by
      cases x with
      | none => exact h
      | some k => simp only [idsB, Bool.and_eq_true] at h; exact h.2
    have ih := idsB_ok hl
    intro i j k hi hj
    cases i with
    | zero =>
      cases j with
      | zero => rfl
      | succ j =>
        simp at hi hj
        subst hi
        simp only [idsB, Bool.and_eq_true, Bool.not_eq_true', List.contains_eq_mem, decide_eq_false_iff_not] at h
        exact absurd (List.mem_of_getElem? hj) h.1
    | succ i =>
      cases j with
      | zero =>
        simp at hi hj
        subst hj
        simp only [idsB, Bool.and_eq_true, Bool.not_eq_true', List.contains_eq_mem, decide_eq_false_iff_not] at h
        exact absurd (List.mem_of_getElem? hi) h.1
      | succ j =>
        simp at hi hj
        rw [ih i j k hi hj]
def ObjBk (ids : Nat → Option (Option Nat)) (m0 : Nat) (x y : Obj) : Prop := (x = y ∧ y.low m0 = true) ∨ ∃ sz es es', x = .live sz es true ∧ y = .live sz es' true ∧ bkL (V.bk ids) es = some es'
theorem ObjBk.live {m0 : Nat} {x y : Obj} (h : ObjBk ids m0 x y) : x.isLive ↔ y.isLive := by
  rcases h with ⟨rfl, _⟩ | ⟨sz, es, es', rfl, rfl, _⟩
  · rfl
  · exact ⟨fun _ => trivial, fun _ => trivial⟩
theorem ObjBk.born {m0 : Nat} {x y : Obj} (h : ObjBk ids m0 x y) (hy : y ≠ .unborn) : x ≠ .unborn := by
  rcases h with ⟨rfl, _⟩ | ⟨sz, es, es', rfl, rfl, _⟩
  · exact hy
  · exact fun h => by cases h
theorem bk_cells {e e' : V} (h : e.bk ids = some e') : e.cells.length = e'.cells.length ∧ ∀ (j : Nat) (x : V), e.cells[j]? = some x → ∃ x', e'.cells[j]? = some x' ∧ x.bkC ids = some x' := by
  cases e with
  | agg cs =>
    simp only [V.bk, Option.map_eq_some_iff] at h
    obtain ⟨cs', hcs, rfl⟩ := h
    obtain ⟨l1, g1⟩ := bkL_get hcs
    exact ⟨l1.symm, g1⟩
  | _ =>
    have key : e'.cells = [e'] := by
      simp only [V.bk, V.bkC, V.bkA] at h
      (repeat' split at h) <;> first | (cases h; rfl) | (cases h; done)
    rw [key]
    refine ⟨rfl, fun j x hx => ?_⟩
    cases j with
    | zero => simp only [V.cells, List.getElem?_cons_zero, Option.some.injEq] at hx; subst hx; exact ⟨e', rfl, by simpa only [V.bk] using h⟩
    | succ j => simp [V.cells] at hx
theorem Sim.ren (h : Sim C γ I τ H tm w) {m0 : Nat} (hlow : LowC C m0) (h0 : ∀ i, i < m0 → ids i = some (some i)) {τ' : Nat → V} {H' : Heap} (hinj : ∀ i j k : Nat, ids i = some (some k) → ids j = some (some k) → (H' i).isLive → (H' j).isLive → i = j)
    (hτ : ∀ t, τ' t = .any ∨ ∃ v, (τ' t).bk ids = some v ∧ v = τ t)
    (h1 : ∀ i k, ids i = some (some k) → H' i = .dead ∨ ObjBk ids m0 (H' i) (H k)) (h2 : ∀ i, ids i = some none → H' i = .dead ∨ ∃ sz, H' i = .live sz [] true) (h3 : ∀ i, ids i = none → H' i = .unborn) :
    Sim C (renP γ ids) I τ' H' tm w where
  below := h.below
  imm0 := h.imm0
  immB := h.immB
  immS := h.immS
  kept := fun fr hf t => (h.kept fr hf t).closed h0 (hlow fr hf t)
  tmp := fun t => by
    rcases hτ t with e | ⟨v, e, rfl⟩
    · rw [e]; exact .any _ _
    · exact Rep.bk e (h.tmp t)
  dom := fun id p hp => by
    unfold renP at hp
    split at hp
    · rename_i k hk
      obtain ⟨d1, d2, d3⟩ := h.dom k p hp
      refine ⟨?_, d2, d3⟩
      rcases h1 id k hk with e | e
      · rw [e]; exact fun h => by cases h
      · exact e.born d1
    · cases hp
  obj := fun id sz es mu hl => by
    cases hid : ids id with
    | none => rw [h3 id hid] at hl; cases hl
    | some o =>
      cases o with
      | none =>
        rcases h2 id hid with e | ⟨sz', e⟩
        · rw [e] at hl; cases hl
        · rw [e] at hl; cases hl; exact .inl ⟨rfl, by simp [renP, hid]⟩
      | some k =>
        have hob : ObjBk ids m0 (H' id) (H k) := by
          rcases h1 id k hid with e | e
          · rw [e] at hl; cases hl
          · exact e
        rcases hob with ⟨e1, e2⟩ | ⟨sz', es1, es', e1, e2, e3⟩
        · rw [e1] at hl
          rw [hl] at e2
          simp only [Obj.low, List.all_eq_true] at e2
          rcases h.obj k sz es mu hl with ⟨g1, g2⟩ | ⟨p, c, t, ha⟩
          · exact .inl ⟨g1, by simp [renP, hid, g2]⟩
          · refine .inr ⟨p, c, t, ⟨by simp [renP, hid, ha.place], ha.size, ha.blk, ha.len, fun i j e x he hx => ?_, ha.mutb, ha.fix, ha.quiet⟩⟩
            obtain ⟨u, hu, hr⟩ := ha.cell i j e x he hx
            exact ⟨u, hu, hr.closedC h0 (low_cell (e2 e (List.mem_of_getElem? he)) hx)⟩
        · rw [e1] at hl
          cases hl
          obtain ⟨l1, g1⟩ := bkL_get e3
          rcases h.obj k sz es' true e2 with ⟨q1, q2⟩ | ⟨p, c, t, ha⟩
          · exact .inl ⟨List.eq_nil_of_length_eq_zero (by rw [← l1, q1]; rfl), by simp [renP, hid, q2]⟩
          · refine .inr ⟨p, c, t, ⟨by simp [renP, hid, ha.place], ha.size, ha.blk, fun e he => ?_, fun i j e x he hx => ?_, ha.mutb, by simp, ha.quiet⟩⟩
            · obtain ⟨i, hi, rfl⟩ := List.getElem_of_mem he
              obtain ⟨e', he', hb⟩ := g1 i _ (List.getElem?_eq_getElem hi)
              rw [(bk_cells hb).1]
              exact ha.len e' (List.mem_of_getElem? he')
            · obtain ⟨e', he', hb⟩ := g1 i e he
              obtain ⟨x', hx', hbx⟩ := (bk_cells hb).2 j x hx
              obtain ⟨u, hu, hr⟩ := ha.cell i j e' x' he' hx'
              exact ⟨u, hu, hr.bkC hbx⟩
  ext := fun id x hl => by
    cases hid : ids id with
    | none => rw [h3 id hid] at hl; cases hl
    | some o =>
      cases o with
      | none =>
        rcases h2 id hid with e | ⟨sz', e⟩
        · rw [e] at hl; cases hl
        · rw [e] at hl; cases hl
      | some k =>
        obtain ⟨e1, e2⟩ : H' id = H k ∧ (H k).low m0 = true := by
          rcases h1 id k hid with e | e | ⟨sz', es1, es', e1, _, _⟩
          · rw [e] at hl; cases hl
          · exact e
          · rw [e1] at hl; cases hl
        rw [e1] at hl
        rw [hl] at e2
        obtain ⟨p, g1, g2, o, g3, g4⟩ := h.ext k x hl
        refine ⟨p, by simp [renP, hid, g1], g2, o, g3, ?_⟩
        cases x with
        | iter s pos => exact g4
        | raw o' => exact g4
        | miter ks vs left last => exact g4
        | map ks vs =>
          obtain ⟨ents, clock, k1, k2, k3, k4, k5⟩ := g4
          simp only [Obj.low, Ext.low, List.all_eq_true] at e2
          exact ⟨ents, clock, k1, k2, k3, k4, fun j x e hx he => (k5 j x e hx he).closed h0 (e2 x (List.mem_of_getElem? hx))⟩
  inj := fun id id' p p' hl hl' hp hp' hb => by
    unfold renP at hp hp'
    split at hp
    · rename_i k hk
      split at hp'
      · rename_i k' hk'
        have l1 : (H k).isLive := by
          rcases h1 id k hk with e | e
          · rw [e] at hl; exact hl.elim
          · exact e.live.1 hl
        have l2 : (H k').isLive := by
          rcases h1 id' k' hk' with e | e
          · rw [e] at hl'; exact hl'.elim
          · exact e.live.1 hl'
        have := h.inj k k' p p' l1 l2 hp hp' hb
        subst this
        exact hinj id id' k hk hk' hl hl'
      · cases hp'
    · cases hp
def holdsR (τ : Nat → V) (ids : Nat → Option (Option Nat)) : List (Nat × V) → Prop
  | [] => True
  | (k, v) :: L => v.bk ids = some (τ k) ∧ holdsR τ ids L
@[go_sem ↓] theorem holdsR_nil (τ : Nat → V) (ids : Nat → Option (Option Nat)) : holdsR τ ids [] = True := nd rfl
@[go_sem ↓] theorem holdsR_cons (τ : Nat → V) (ids : Nat → Option (Option Nat)) (k : Nat) (v : V) (L : List (Nat × V)) : holdsR τ ids ((k, v) :: L) = (v.bk ids = some (τ k) ∧ holdsR τ ids L) := nd rfl
def oneO (H : Heap) (m0 : Nat) (x : Obj) : Option Nat → Prop
  | some k => x = .dead ∨ (H k = x ∧ x.low m0 = true)
  | none => x = .dead ∨ ∃ sz, x = .live sz [] true
def holdsP (H : Heap) (m0 : Nat) : List (Option Nat) → List Obj → Prop
  | [], [] => True
  | i :: ids, x :: O => oneO H m0 x i ∧ holdsP H m0 ids O
  | _, _ => False
@[go_sem ↓] theorem holdsP_nil (H : Heap) (m0 : Nat) : holdsP H m0 [] [] = True := nd rfl
@[go_sem ↓] theorem holdsP_some (H : Heap) (m0 : Nat) (k : Nat) (sz : Nat) (es : List V) (mu : Bool) (ids : List (Option Nat)) (O : List Obj) : holdsP H m0 (some k :: ids) (.live sz es mu :: O) = ((H k = .live sz es mu ∧ (Obj.live sz es mu).low m0 = true) ∧ holdsP H m0 ids O) := by simp [holdsP, oneO]
@[go_sem ↓] theorem holdsP_ext (H : Heap) (m0 : Nat) (k : Nat) (x : Ext) (ids : List (Option Nat)) (O : List Obj) : holdsP H m0 (some k :: ids) (.ext x :: O) = ((H k = .ext x ∧ (Obj.ext x).low m0 = true) ∧ holdsP H m0 ids O) := by simp [holdsP, oneO]
@[go_sem ↓] theorem holdsP_live (H : Heap) (m0 : Nat) (sz : Nat) (es : List V) (mu : Bool) (ids : List (Option Nat)) (O : List Obj) : holdsP H m0 (none :: ids) (.live sz es mu :: O) = ((es = [] ∧ mu = true) ∧ holdsP H m0 ids O) := by simp [holdsP, oneO]
theorem slotsR_of {τ : Nat → V} : ∀ {L : List (Nat × V)}, holdsR τ ids L → ∀ t, slotsL L t = .any ∨ ∃ v, (slotsL L t).bk ids = some v ∧ v = τ t
  | [], _, t => .inl rfl
  | (k, v) :: L, h, t => by
    rw [slotsL_cons]
    by_cases e : t = k
    · subst e; rw [if_pos rfl]; exact .inr ⟨_, h.1, rfl⟩
    · rw [if_neg e]; exact slotsR_of h.2 t
theorem holdsP_of {H : Heap} {m0 : Nat} : ∀ {ids : List (Option Nat)} {O : List Obj}, holdsP H m0 ids O → ids.length = O.length ∧ (∀ i k, ids[i]? = some (some k) → objsL O i = .dead ∨ (objsL O i = H k ∧ (H k).low m0 = true)) ∧
    (∀ i, ids[i]? = some none → objsL O i = .dead ∨ ∃ sz, objsL O i = .live sz [] true)
  | [], [], _ => by simp
  | [], _ :: _, h => h.elim
  | _ :: _, [], h => h.elim
  | o :: ids, x :: O, h => by
    obtain ⟨e1, e2, e3⟩ := holdsP_of h.2
    refine ⟨by simp [e1], fun i k hk => ?_, fun i hi => ?_⟩
    · cases i with
      | zero =>
        simp at hk
        subst hk
        rcases h.1 with g | ⟨g1, g2⟩
        · exact .inl g
        · exact .inr ⟨g1.symm, by rw [g1]; exact g2⟩
      | succ i => exact e2 i k (by simpa using hk)
    · cases i with
      | zero =>
        simp at hi
        subst hi
        exact h.1
      | succ i => exact e3 i (by simpa using hi)
def maskI : List (Option Nat) → List Obj → List (Option Nat)
  | _ :: ids, .dead :: O => none :: maskI ids O
  | i :: ids, _ :: O => i :: maskI ids O
  | _, _ => []
theorem maskI_get : ∀ {ids : List (Option Nat)} {O : List Obj}, ids.length = O.length → ∀ (i : Nat) (k : Nat), ids[i]? = some (some k) → (objsL O i).isLive → (maskI ids O)[i]? = some (some k)
  | [], O, _, i, k, h, _ => by simp at h
  | _ :: _, [], hl, i, k, _, _ => by simp at hl
  | a :: ids, x :: O, hl, i, k, h, hv => by
    have ih := fun i h hv => maskI_get (ids := ids) (O := O) (by simpa using hl) i k h hv
    cases i with
    | zero =>
      cases x with
      | dead => exact hv.elim
      | unborn => exact hv.elim
      | live => simpa [maskI] using h
      | ext => simpa [maskI] using h
    | succ i =>
      have := ih i (by simpa using h) hv
      cases x <;> simpa [maskI] using this
theorem LeF.ren {C : Ctx} {τ : Nat → V} {H : Heap} {n : Nat} {L : List (Nat × V)} {O : List Obj} {m : Nat} (ids : List (Option Nat)) (hids : idsB (maskI ids O) = true) (hm : m = O.length) (m0 : Nat) (h : holdsR τ (ids[·]?) L ∧ holdsP H m0 ids O)
    (h0 : ∀ i, i < m0 → ids[i]? = some (some i) := by first | (intro i hi; exact absurd hi (Nat.not_lt_zero _)) | decide) (hlow : LowC C m0 := by first | exact LowC.top _ _ | assumption) : LeF C ⟨τ, H, n⟩ ⟨slotsL L, objsL O, m⟩ := by
  subst hm
  rintro a w ⟨γ, I, hS⟩
  obtain ⟨e1, e2, e3⟩ := holdsP_of h.2
  exact ⟨_, I, hS.ren (ids := (ids[·]?)) hlow h0 (fun i j k hi hj li lj => idsB_ok hids i j k (maskI_get e1 i k hi li) (maskI_get e1 j k hj lj)) (slotsR_of h.1) (fun i k hk => (e2 i k hk).imp id .inl) e3 fun i hi => objsL_out (by rw [← e1]; simpa using hi)⟩
attribute [go_sem] V.bk V.bkC V.bkA bkL
def extH (H0 : Heap) (n : Nat) (O : List Obj) : Heap := fun id => if id < n then H0 id else objsL O (id - n)
@[go_sem] theorem extH_0 (H0 : Heap) (n : Nat) (O : List Obj) : extH H0 n O n = objsL O 0 := by simp [extH]
@[go_sem] theorem extH_k (H0 : Heap) (n k : Nat) (O : List Obj) : extH H0 n O (n + k) = objsL O k := by simp [extH]; omega
theorem extH_lt {H0 : Heap} {n id : Nat} {O : List Obj} (h : id < n) : extH H0 n O id = H0 id := by simp [extH, h]
def LowT (m : Nat) (τ : Nat → V) : Prop := ∀ t, (τ t).low m = true
theorem LowT.upd {m : Nat} {τ : Nat → V} {d : Nat} {v : V} (h : LowT m τ) (hv : v.low m = true) : LowT m (updT τ d v) := fun t => by
  unfold updT
  split
  · exact hv
  · exact h t
theorem LowT.prune {m : Nat} {τ : Nat → V} {K : List Nat} (h : LowT m τ) : LowT m (Idl.prune K τ) := fun t => by
  unfold Idl.prune
  split
  · exact h t
  · rfl
theorem LowT.pnil {m : Nat} : LowT m (pars []) := fun t => rfl
theorem LowT.pcons {m : Nat} {v : V} {L : List V} (hv : v.low m = true) (h : LowT m (pars L)) : LowT m (pars (v :: L)) := fun t => by
  cases t with
  | zero => exact hv
  | succ t => exact h t
end Go.Idl
namespace Go.Idl
set_option linter.all false
open Go.RowKit
variable [Laid]
class KeyC (κ : Type) where
  deq : DecidableEq κ
  ag : Bool
  ks : List CK
  kval : κ → Value
  kdec : Value → Option κ
  kdec_val : ∀ k, kdec (kval k) = some k
  kval_dec : ∀ v k, kdec v = some k → v = kval k
  okk : ∀ k, okKey ag (kval k) = true
  len : ∀ k, (kval k).cells.size = ks.length
  eqk : ∀ a b, eqK ks (kval a).cells.toList (kval b).cells.toList = some (decide (a = b))
instance (priority := low) instKeyDeq (κ : Type) [KeyC κ] : DecidableEq κ := KeyC.deq
theorem ba_beq (a b : ByteArray) : (a == b) = decide (a = b) := by
  rw [Bool.eq_iff_iff]
  cases a with | mk x =>
  cases b with | mk y =>
    have e : ((⟨x⟩ : ByteArray) == ⟨y⟩) = (x == y) := rfl
    rw [e]
    simp
def decKey : List Value → Option KeyD
  | [.string x, .string y, .int .i64 n] => some ⟨x, y, n⟩
  | _ => none
def decKey' : Value → Option KeyD
  | .agg a => decKey a.toList
  | _ => none
instance : KeyC ByteArray where
  deq := inferInstance
  ag := false
  ks := [.s]
  kval := .string
  kdec := fun | .string s => some s | _ => none
  kdec_val := fun _ => rfl
  kval_dec := fun v k h => by
    split at h
    · cases h; rfl
    · cases h
  okk := fun _ => rfl
  len := fun _ => rfl
  eqk := fun a b => by
    show andO (some (a == b)) (some true) = _
    simp only [andO, Bool.and_true, Option.some.injEq, ba_beq]
def decOKey : List Value → Option OKeyD
  | [.int .i64 n, .string x, .string y] => some ⟨n, x, y⟩
  | _ => none
def decOKey' : Value → Option OKeyD
  | .agg a => decOKey a.toList
  | _ => none
instance : KeyC OKeyD where
  deq := fun a b => if h : a.kind = b.kind ∧ a.owner = b.owner ∧ a.id = b.id then .isTrue (by cases a; cases b; simp at h; simp [h]) else .isFalse fun e => h (by rw [e]; exact ⟨rfl, rfl, rfl⟩)
  ag := true
  ks := [.i .i64, .s, .s]
  kval := fun k => .agg #[.int .i64 k.kind, .string k.owner, .string k.id]
  kdec := decOKey'
  kdec_val := fun _ => rfl
  kval_dec := fun v k h => by
    unfold decOKey' at h
    split at h
    · rename_i a
      unfold decOKey at h
      split at h
      · rename_i x y n hl
        cases h
        rw [← Array.toArray_toList (xs := a), hl]
      · cases h
    · cases h
  okk := fun _ => rfl
  len := fun _ => rfl
  eqk := fun a b => by
    show andO (if IntKind.i64 = IntKind.i64 ∧ IntKind.i64 = IntKind.i64 then some (a.kind == b.kind) else none) (andO (some (a.owner == b.owner)) (andO (some (a.id == b.id)) (some true))) = _
    simp only [andO, Bool.and_true, and_self, if_true, Option.some.injEq, ba_beq]
    rw [Bool.eq_iff_iff]
    simp only [Bool.and_eq_true, beq_iff_eq, decide_eq_true_eq]
    constructor
    · rintro ⟨h1, h2, h3⟩; cases a; cases b; simp at h1 h2 h3; simp [h1, h2, h3]
    · rintro rfl; exact ⟨rfl, rfl, rfl⟩
section
variable {κ α : Type} [KeyC κ]
def keysM (m : List (κ × α)) : List Value := m.map fun p => KeyC.kval p.1
def valsM [Cod α] (m : List (κ × α)) : List V := m.map fun p => Cod.enc p.2
def fidx (m : List (κ × α)) (k : κ) : Option Nat := m.findIdx? fun p => decide (k = p.1)
def lookM (m : List (κ × α)) (k : κ) : Option α := (m.find? fun p => decide (k = p.1)).map (·.2)
def putM (m : List (κ × α)) (k : κ) (a : α) : List (κ × α) := match fidx m k with
  | some i => m.set i (k, a)
  | none => m ++ [(k, a)]
theorem keyFind_typed (m : List (κ × α)) (k : κ) (i : Nat) : keyFind (KeyC.ag κ) (KeyC.ks κ) (KeyC.kval k).cells.toList (keysM m) i = some ((fidx m k).map (· + i)) := by
  induction m generalizing i with
  | nil => rfl
  | cons p m ih =>
    simp only [keysM, List.map_cons, keyFind, KeyC.okk, if_true, KeyC.eqk]
    have ih' := ih (i + 1)
    simp only [keysM] at ih'
    by_cases h : k = p.1
    · simp [h, fidx, List.findIdx?_cons]
    · simp only [h, decide_false, ih', fidx, List.findIdx?_cons, Bool.false_eq_true, if_false]
      cases List.findIdx? (fun p => decide (k = p.1)) m <;> simp; omega
theorem idxI_typed (m : List (κ × α)) (k : κ) : idxI (KeyC.ag κ) (KeyC.ks κ) (KeyC.kval k) (keysM m) = some (fidx m k) := by
  unfold idxI
  rw [if_pos (KeyC.len k), keyFind_typed]
  simp
theorem fidx_some {m : List (κ × α)} {k : κ} {i : Nat} (h : fidx m k = some i) : ∃ a, m[i]? = some (k, a) ∧ lookM m k = some a := by
  unfold fidx at h
  unfold lookM
  have hh := List.findIdx?_eq_some_iff_getElem.1 h
  obtain ⟨hi, h1, h2⟩ := hh
  have e : m[i].1 = k := by simpa using (Eq.symm (by simpa using h1))
  refine ⟨m[i].2, ?_, ?_⟩
  · rw [List.getElem?_eq_getElem hi, ← e]
  · have : m.find? (fun p => decide (k = p.1)) = some m[i] := by
      rw [List.find?_eq_some_iff_getElem]
      exact ⟨h1, i, hi, rfl, fun j hj => by simpa using h2 j hj⟩
    rw [this]; rfl
theorem fidx_none {m : List (κ × α)} {k : κ} (h : fidx m k = none) : lookM m k = none := by
  unfold fidx at h
  unfold lookM
  rw [List.findIdx?_eq_none_iff] at h
  rw [Option.map_eq_none_iff, List.find?_eq_none]
  intro p hp
  simp [h p hp]
theorem lookM_none {m : List (κ × α)} {k : κ} : lookM m k = none ↔ fidx m k = none := by
  constructor
  · intro h
    cases hf : fidx m k with
    | none => rfl
    | some i => obtain ⟨a, _, h2⟩ := fidx_some hf; rw [h] at h2; cases h2
  · exact fidx_none
def lookT [Cod α] (z : V) (b : Bool) : Option α → Option (V × List (Nat × Obj))
  | some a => some (lookV b (Cod.enc a) true, [])
  | none => some (lookV b z false, [])
@[go_sem ↓] theorem lookT_some [Cod α] (z : V) (b : Bool) (a : α) : lookT z b (some a) = some (lookV b (Cod.enc a) true, []) := nd rfl
@[go_sem ↓] theorem lookT_none [Cod α] (z : V) (b : Bool) : lookT z b (none : Option α) = some (lookV b z false, []) := nd rfl
@[congr] theorem lookT_congr [Cod α] {z : V} {b : Bool} {x x' : Option α} (h : x = x') : lookT z b x = lookT z b x' := by rw [h]
@[go_sem] theorem lookF_typed [Cod α] (z : V) (b : Bool) (m : List (κ × α)) (k : κ) : lookF z b (valsM m) (some (fidx m k)) = lookT z b (lookM m k) := by
  cases h : fidx m k with
  | none => rw [fidx_none h]; rfl
  | some i =>
    obtain ⟨a, h1, h2⟩ := fidx_some h
    rw [h2]
    simp [lookF, valsM, h1, lookT]
theorem putF_typed [Cod α] (id : Nat) (kv : Value) (v : V) (m : List (κ × α)) (k : κ) (a : α) (hk : kv = KeyC.kval k) (hv : v = Cod.enc a) :
    putF' id kv v (keysM m) (valsM m) (some (fidx m k)) = some (.any, [(id, .ext (.map (keysM (putM m k a)) (valsM (putM m k a))))]) := by
  subst hk hv
  unfold putM
  cases h : fidx m k with
  | none => simp [putF', keysM, valsM]
  | some i => simp [putF', keysM, valsM, List.map_set]
@[go_sem] theorem keysM_len (m : List (κ × α)) : (keysM m).length = m.length := by simp [keysM]
theorem keysM_nil : keysM ([] : List (κ × α)) = [] := rfl
theorem valsM_nil [Cod α] : valsM ([] : List (κ × α)) = [] := rfl
theorem find_set {m : List (κ × α)} {k : κ} {a : α} {i : Nat} (h : fidx m k = some i) (k' : κ) : lookM (m.set i (k, a)) k' = if k' = k then some a else lookM m k' := by
  induction m generalizing i with
  | nil => simp [fidx] at h
  | cons p m ih =>
    unfold fidx at h
    rw [List.findIdx?_cons] at h
    by_cases hk : k = p.1
    · simp only [hk, decide_true, if_true, Option.some.injEq] at h
      subst h
      simp only [List.set_cons_zero, lookM, List.find?_cons]
      by_cases e : k' = k
      · simp [e]
      · have : ¬ k' = p.1 := fun e' => e (e'.trans hk.symm)
        simp [e, this]
    · simp only [hk, decide_false, Bool.false_eq_true, if_false, Option.map_eq_some_iff] at h
      obtain ⟨j, hj, rfl⟩ := h
      have := ih (i := j) hj
      simp only [List.set_cons_succ]
      unfold lookM at this ⊢
      rw [List.find?_cons, List.find?_cons]
      by_cases e : k' = p.1
      · have : ¬ k' = k := fun e' => hk (e'.symm.trans e)
        simp [e]
        intro h; exact absurd h.symm hk
      · simp only [e, decide_false]
        exact this
theorem lookM_put (m : List (κ × α)) (k : κ) (a : α) (k' : κ) : lookM (putM m k a) k' = if k' = k then some a else lookM m k' := by
  unfold putM
  cases h : fidx m k with
  | some i => exact find_set h k'
  | none =>
    have hn := fidx_none h
    unfold lookM at hn ⊢
    simp only [List.find?_append, List.find?_cons, List.find?_nil]
    by_cases e : k' = k
    · subst e
      rw [Option.map_eq_none_iff] at hn
      simp [hn]
    · simp only [e, decide_false, if_false, Option.or_none]
structure KM (κ α : Type) where
  o : Option (List (κ × α))
def decKs : List Value → Option (List κ)
  | [] => some []
  | v :: vs => match KeyC.kdec v, decKs vs with
    | some k, some l => some (k :: l)
    | _, _ => none
theorem decKs_val (l : List κ) : decKs (l.map KeyC.kval) = some l := by
  induction l with
  | nil => rfl
  | cons k l ih => simp [decKs, KeyC.kdec_val, ih]
theorem decKs_eq : ∀ {vs : List Value} {l : List κ}, decKs vs = some l → vs = l.map KeyC.kval
  | [], l, h => by cases h; rfl
  | v :: vs, l, h => by
    simp only [decKs] at h
    split at h
    · rename_i k l' h1 h2
      cases h
      rw [KeyC.kval_dec _ _ h1, decKs_eq h2]
      rfl
    · cases h
def decM [Cod α] : V → Option (KM κ α)
  | .sc (.map none) => some ⟨none⟩
  | .mapf ks vs => match (decKs ks : Option (List κ)), (decL Cod.dec vs : Option (List α)) with
    | some a, some b => if a.length = b.length then some ⟨some (a.zip b)⟩ else none
    | _, _ => none
  | _ => none
theorem LeV.mapf {ks : List Value} {vs vs' : List V} (hl : vs.length = vs'.length) (h : ∀ (j : Nat) v v', vs[j]? = some v → vs'[j]? = some v' → LeV v v') : LeV (.mapf ks vs) (.mapf ks vs') := by
  intro I w u hr
  cases hr with
  | mapf _ _ _ r clock ents hI hr hl' hk hh =>
    refine .mapf _ _ _ _ clock ents hI hr (by omega) hk fun j x e hx he => ?_
    have hj : j < vs.length := by rw [hl]; exact (List.getElem?_eq_some_iff.1 hx).1
    exact h j vs[j] x (by simp) hx I w _ (hh j vs[j] e (by simp) he)
instance instKM [Cod α] : Cod (KM κ α) where
  enc := fun m => match m.o with
    | none => .sc (.map none)
    | some l => .mapf (keysM l) (valsM l)
  dec := decM
  sz := 1
  len := fun m => by cases m.o <;> rfl
  dec_enc := fun ⟨m⟩ => by
    cases m with
    | none => rfl
    | some l =>
      have e1 : keysM l = (l.map (·.1)).map KeyC.kval := by simp [keysM, Function.comp_def]
      have e2 : valsM l = (l.map (·.2)).map Cod.enc := by simp [valsM, Function.comp_def]
      show decM (.mapf (keysM l) (valsM l)) = _
      simp only [decM, e1, e2, decKs_val, decL_enc Cod.dec_enc, List.length_map, if_true]
      simp only [← List.unzip_fst, ← List.unzip_snd, List.zip_unzip]
  le := fun v m h => by
    unfold decM at h
    split at h
    · cases h; exact .one rfl rfl (.refl _)
    · rename_i ks vs
      split at h
      · rename_i a b h1 h2
        split at h
        · rename_i hl
          cases h
          refine .one rfl rfl ?_
          have e1 : keysM (a.zip b) = ks := by
            rw [decKs_eq h1]
            simp only [keysM]
            rw [show (fun p : κ × α => KeyC.kval p.1) = KeyC.kval ∘ Prod.fst from rfl, ← List.map_map, List.map_fst_zip (by omega)]
          have e2 : valsM (a.zip b) = b.map Cod.enc := by
            simp only [valsM]
            rw [show (fun p : κ × α => Cod.enc p.2) = Cod.enc ∘ Prod.snd from rfl, ← List.map_map, List.map_snd_zip (by omega)]
          show LeV (.mapf ks vs) (.mapf (keysM (a.zip b)) (valsM (a.zip b)))
          rw [e1, e2]
          obtain ⟨g1, g2⟩ := decL_get h2
          refine .mapf (by simp [g1]) fun j v v' hv hv' => ?_
          simp only [List.getElem?_map, Option.map_eq_some_iff] at hv'
          obtain ⟨x, hx, rfl⟩ := hv'
          exact (Cod.le _ _ (g2 j v x hv hx)).le
        · cases h
      · cases h
    · cases h
@[go_sem ↓] theorem enc_km [Cod α] (m : List (κ × α)) : Cod.enc (⟨some m⟩ : KM κ α) = .mapf (keysM m) (valsM m) := nd rfl
@[go_sem] theorem dec_km [Cod α] (m : List (κ × α)) : (Cod.dec (.mapf (keysM m) (valsM m)) : Option (KM κ α)) = some ⟨some m⟩ := Cod.dec_enc (⟨some m⟩ : KM κ α)
end
@[go_sem] theorem idxI_str {α : Type} (m : List (ByteArray × α)) (s : ByteArray) : idxI false [.s] (.string s) (keysM m) = some (fidx m s) := idxI_typed m s
@[go_sem] theorem putF_strB (id : Nat) (s : ByteArray) (b : Bool) (m : List (ByteArray × Bool)) : putF' id (.string s) (.sc (.bool b)) (keysM m) (valsM m) (some (fidx m s)) = some (.any, [(id, .ext (.map (keysM (putM m s b)) (valsM (putM m s b))))]) := putF_typed id _ _ m s b rfl rfl
end Go.Idl
namespace Go.Idl
set_option linter.all false
open Go.RowKit
variable [Laid]
variable {P : Program} {Φ : Specs} (n : Nat) (τ : Nat → V) (H : Heap)
def mksI (n sz bytes : Nat) (z : V) : V → V → Obj → Option (V × List (Nat × Obj))
  | .sc (.int .i64 l), .sc (.int .i64 c), .unborn => if 0 ≤ l ∧ l ≤ c ∧ c ≤ 4294967296 ∧ bytes * c.toNat ≤ 281474976710656 then some (.own n 0 l.toNat, [(n, .live sz (List.replicate l.toNat z) true)]) else none
  | _, _, _ => none
@[congr] theorem mksI_congr {n sz bytes : Nat} {z l l' c c' : V} {o o' : Obj} (h1 : l = l') (h2 : c = c') (h3 : o = o') : mksI n sz bytes z l c o = mksI n sz bytes z l' c' o' := by rw [h1, h2, h3]
@[go_sem ↓] theorem ev_mks (sz bytes : Nat) (z : V) (l c : A) : evIO P Φ n τ H (.mks sz bytes z l c) = mksI n sz bytes z (l.get τ) (c.get τ) (H n) := by
  simp only [evIO]
  generalize l.get τ = vl
  generalize c.get τ = vc
  generalize H n = ob
  cases ob <;> cases vl with
  | sc u => cases u with
    | int k a => cases k <;> cases vc with
      | sc u' => cases u' with
        | int k' a' => cases k' <;> rfl
        | _ => rfl
      | _ => rfl
    | _ => cases vc <;> rfl
  | _ => cases vc <;> rfl
@[go_sem ↓] theorem mksI_at (sz bytes : Nat) (z : V) (l c : Int) : mksI n sz bytes z (.sc (.int .i64 l)) (.sc (.int .i64 c)) .unborn = if 0 ≤ l ∧ l ≤ c ∧ c ≤ 4294967296 ∧ bytes * c.toNat ≤ 281474976710656 then some (.own n 0 l.toNat, [(n, .live sz (List.replicate l.toNat z) true)]) else none := nd rfl
def elemsO (sz off len : Nat) : Obj → Option (List V)
  | .live s es _ => if s = sz ∧ off + len ≤ es.length then some ((es.drop off).take len) else none
  | _ => none
@[go_sem ↓] theorem news_slice (sz s : Nat) (es : List V) : news H sz (.slice s es) = if s = sz ∨ es = [] then some es else none := nd rfl
@[go_sem ↓] theorem news_own (sz id off len : Nat) : news H sz (.own id off len) = elemsO sz off len (H id) := by
  simp only [news, V.elems]
  generalize H id = ob
  cases ob <;> rfl
@[go_sem ↓] theorem elemsO_live (sz off len s : Nat) (es : List V) (mu : Bool) : elemsO sz off len (.live s es mu) = if s = sz ∧ off + len ≤ es.length then some ((es.drop off).take len) else none := nd rfl
def appO (n sz bytes : Nat) (ys : List V) (id off len : Nat) : Obj → Option (V × List (Nat × Obj))
  | .live s es mu => if s = sz ∧ off + len = es.length ∧ (len + ys.length) * bytes ≤ 68719476736 ∧ len + ys.length ≤ 4294967296 ∧ ys.all (okE sz) = true then some (.own n 0 (len + ys.length), [(id, .dead), (n, .live sz (es.drop off ++ ys) mu)]) else none
  | _ => none
def appI (H : Heap) (n sz bytes : Nat) : Option (List V) → V → Obj → Option (V × List (Nat × Obj))
  | some ys, .own id off len, .unborn => appO n sz bytes ys id off len (H id)
  | some ys, .mt, .unborn => if ys.length * bytes ≤ 68719476736 ∧ ys.length ≤ 4294967296 ∧ ys.all (okE sz) = true then some (.own n 0 ys.length, [(n, .live sz ys true)]) else none
  | some ys, .sc (.slice none 0 0), .unborn => if ys.length * bytes ≤ 68719476736 ∧ ys.length ≤ 4294967296 ∧ ys.all (okE sz) = true then some (.own n 0 ys.length, [(n, .live sz ys true)]) else none
  | _, _, _ => none
@[congr] theorem appI_congr {H : Heap} {n sz bytes : Nat} {ys ys' : Option (List V)} {x x' : V} {o o' : Obj} (h1 : ys = ys') (h2 : x = x') (h3 : o = o') : appI H n sz bytes ys x o = appI H n sz bytes ys' x' o' := by rw [h1, h2, h3]
@[go_sem ↓] theorem ev_app (sz bytes : Nat) (x y : A) : evIO P Φ n τ H (.app sz bytes x y) = appI H n sz bytes (news H sz (y.get τ)) (x.get τ) (H n) := by
  simp only [evIO]
  generalize news H sz (y.get τ) = ys
  generalize x.get τ = vx
  generalize H n = ob
  cases ob <;> cases ys with
  | none => cases vx with
    | sc u => cases u <;> rfl
    | _ => rfl
  | some ys => cases vx with
    | own id off len =>
      first | rfl | (simp only [appI, Option.bind_some]; generalize H id = ob2; cases ob2 <;> rfl)
    | sc u => cases u with
      | slice a b c => cases a <;> cases b <;> cases c <;> rfl
      | _ => rfl
    | _ => rfl
@[go_sem ↓] theorem appI_own (sz bytes : Nat) (ys : List V) (id off len : Nat) : appI H n sz bytes (some ys) (.own id off len) .unborn = appO n sz bytes ys id off len (H id) := nd rfl
@[go_sem ↓] theorem appO_live (sz bytes : Nat) (ys : List V) (id off len s : Nat) (es : List V) (mu : Bool) : appO n sz bytes ys id off len (.live s es mu) = if s = sz ∧ off + len = es.length ∧ (len + ys.length) * bytes ≤ 68719476736 ∧ len + ys.length ≤ 4294967296 ∧ ys.all (okE sz) = true then some (.own n 0 (len + ys.length), [(id, .dead), (n, .live sz (es.drop off ++ ys) mu)]) else none := nd rfl
@[go_sem ↓] theorem appI_nil (sz bytes : Nat) (ys : List V) : appI H n sz bytes (some ys) (.sc (.slice none 0 0)) .unborn = if ys.length * bytes ≤ 68719476736 ∧ ys.length ≤ 4294967296 ∧ ys.all (okE sz) = true then some (.own n 0 ys.length, [(n, .live sz ys true)]) else none := nd rfl
end Go.Idl
namespace Go.Idl
set_option linter.all false
open Go.RowKit
variable [Laid]
variable {P : Program} {Φ : Specs} (n : Nat) (τ : Nat → V) (H : Heap)
end Go.Idl
namespace Go.Idl
set_option linter.all false
open Go.RowKit
variable [Laid]
def strOf (ns : List Int) : ByteArray := ns.foldl (fun r n => r.push (UInt8.ofNat n.toNat)) ByteArray.empty
def bytV : List V → Option (List Int)
  | [] => some []
  | .sc (.int .u8 n) :: vs => (bytV vs).map (n :: ·)
  | _ => none
theorem bytV_get : ∀ {ys : List V} {ns : List Int}, bytV ys = some ns → ys = ns.map fun n => .sc (.int .u8 n)
  | [], ns, h => by simp [bytV] at h; subst h; rfl
  | y :: ys, ns, h => by
    unfold bytV at h
    split at h
    · rename_i h0; cases h0
    · rename_i n vs heq
      cases heq
      rw [Option.map_eq_some_iff] at h
      obtain ⟨l, h1, rfl⟩ := h
      rw [bytV_get h1]; rfl
    · cases h
variable {P : Program} {C : Ctx}
def nckI (e : Option (V × List (Nat × Obj))) : V → Option (V × List (Nat × Obj))
  | .ref id idx off => some (.ref id idx off, [])
  | .elem x off => some (.elem x off, [])
  | _ => e
@[congr] theorem nckI_congr {e : Option (V × List (Nat × Obj))} {x x' : V} (h : x = x') : nckI e x = nckI e x' := by rw [h]
@[go_sem ↓] theorem ev_nck {Φ : Specs} (n : Nat) (τ : Nat → V) (H : Heap) (x : A) (o : Oper) : evIO P Φ n τ H (.nck x o) = nckI (evStuck P Φ n τ H (.nck x o)) (x.get τ) := by
  unfold evStuck
  simp only [evIO]
  generalize x.get τ = v
  cases v <;> rfl
@[go_sem ↓] theorem nckI_ref (e : Option (V × List (Nat × Obj))) (id idx off : Nat) : nckI e (.ref id idx off) = some (.ref id idx off, []) := nd rfl
theorem opT_bytes {tb ts e : TypeId} {ty : Nat} (hb : P.underlying tb = some (.slice e)) (he : P.underlying e = some (.int .u8)) (hs : P.underlying ts = some .string) {τ : Nat → V} {H : Heap} {n k id off len : Nat} {ys : List V} {ns : List Int} {K : V → SF → Prop}
    (hx : τ k = .own id off len) (hn : news H 1 (.own id off len) = some ys) (hv : bytV ys = some ns) (hk : K (.sc (.string (strOf ns))) ⟨τ, H, n⟩) : OpT P C (pu (.convert tb ts (.tmp k)) ty) ⟨τ, H, n⟩ K := by
  intro tm ds w γ I hS
  left
  have hr : Rep I w γ (.own id off len) ((⟨tm, ds⟩ : Act).eval (.tmp k)) := by
    have := hS.opd ds (.tmp k)
    simp only [opd] at this
    rw [hx] at this
    exact this
  have hys := bytV_get hv
  obtain ⟨nl, hsrc⟩ := src_rep (P := P) hS (sz := 1) (by decide) (ids := [id]) (x := .own id off len) (ys := ys) (by rw [news_only (by simp [V.ids])]; exact hn) hr (by rw [hys]; simp [V.cells])
  have hnl : nl = ns.map (Value.int .u8) := by
    apply List.ext_getElem?
    intro i
    have h1 := hsrc.len
    rw [Nat.mul_one] at h1
    have h2 : ys.length = ns.length := by rw [hys]; simp
    by_cases hi : i < ys.length
    · obtain ⟨n0, hn0⟩ : ∃ n0, ns[i]? = some n0 := ⟨ns[i]'(by omega), by simp⟩
      have hy0 : ys[i]? = some (.sc (.int .u8 n0)) := by rw [hys, List.getElem?_map, hn0]; rfl
      obtain ⟨u, hu, hru⟩ := hsrc.cell i 0 (.sc (.int .u8 n0)) (.sc (.int .u8 n0)) hy0 rfl
      have := hru.sc_eq
      subst this
      simp only [Nat.mul_one, Nat.add_zero] at hu
      rw [hu, List.getElem?_map, hn0]; rfl
    · rw [List.getElem?_eq_none (by omega), List.getElem?_eq_none (by simp; omega)]
  refine ⟨.string (strOf ns), w, .sc (.string (strOf ns)), ⟨τ, H, n⟩, γ, I, ?_, hk, hS, .sc _ _⟩
  have hf := hsrc.first w (fun _ => rfl)
  have hc := hsrc.count w
  generalize hu : (⟨tm, ds⟩ : Act).eval (.tmp k) = u at hr hsrc hf hc
  have key : (convert tb ts u).run P w = .ok (.string (strOf ns)) w := by
    cases hr with
    | own _ _ _ _ cap p c t m hp hcap hbl hroom =>
      rw [run_convert_bytes_string w tb ts e _ _ _ hb he hs]
      have hl : ys.length = len := by simpa [Builtin.lenOf, Sem.run_pure] using hc.symm
      refine run_bytesToString w _ len cap ns ?_
      rw [← hnl, ← hl]
      simpa [Builtin.firstCells] using hf
    | own0 _ _ _ A =>
      rw [run_convert_bytes_string w tb ts e _ _ _ hb he hs]
      have hl : ys.length = 0 := by simpa [Builtin.lenOf, Sem.run_pure] using hc.symm
      have h0 : ns = [] := by
        have : ys.length = ns.length := by rw [hys]; simp
        exact List.eq_nil_of_length_eq_zero (by omega)
      subst h0
      cases A with
      | none => simp [Conv.bytesToString, Sem.run_pure, strOf]
      | some a => exact run_bytesToString w a 0 0 [] (by simp [loadCells, loadCellsFrom, Sem.run_pure])
  simp only [pu, execOp, Act.eval] at hu ⊢
  simp only [hu, Sem.run_bind, key, Result.andThen, Sem.run_pure]
theorem stepI_bytes {Φ : Specs} {Q : SF → Prop} {rest : List IOp} {d : Nat} {tb ts e : TypeId} {ty : Nat} (hb : P.underlying tb = some (.slice e)) (he : P.underlying e = some (.int .u8)) (hs : P.underlying ts = some .string) {τ : Nat → V} {H : Heap} {n k id off len : Nat} {ys : List V} {ns : List Int} {E : Option (V × List (Nat × Obj))}
    (hx : τ k = .own id off len) (hn : news H 1 (.own id off len) = some ys) (hv : bytV ys = some ns) (hE : E = none) (h : seqI P Φ C Q rest ⟨updT τ d (.sc (.string (strOf ns))), H, n⟩) :
    stepI P Φ C Q rest (some d) (some (.pur (pu (.convert tb ts (.tmp k)) ty))) τ H n E := by
  subst hE
  exact opT_bytes (P := P) (C := C) (K := fun v s' => seqI P Φ C Q rest ⟨updT τ d v, s'.H, s'.n⟩) hb he hs hx hn hv h
theorem conv_none {Φ : Specs} {d d' : Option TypeDesc} {t t' : TypeId} {ty : Nat} {τ : Nat → V} {H : Heap} {n k id off len : Nat} (hx : τ k = .own id off len) : convI d d' (evStuck P Φ n τ H (.pur (pu (.convert t t' (.tmp k)) ty))) (.own id off len) = none := by
  have : evStuck P Φ n τ H (.pur (pu (.convert t t' (.tmp k)) ty)) = none := by
    simp only [evStuck, evIO, evPure]
    rw [if_neg]
    simp [pu, Op.operands, opd, hx, V.conc]
  unfold convI
  split
  · rename_i h; cases h
  · exact this
end Go.Idl
namespace Go.Idl
set_option linter.all false
open Go.RowKit
variable [Laid]
variable {P : Program} {Φ : Specs} {C : Ctx} {γ : Places} {I : Imm} {τ : Nat → V} {H : Heap} {tm : Array Value} {w : World} {N : Nat}
section
variable {K : List Nat} {bef : List Nat} {n0 : Nat} {Q : SF → Prop} {rest : List IOp} {i : Nat} {acc : List Rec} {n : Nat}
end
def liveQ (sz : Nat) (y : Obj) : Option (List V) → Prop
  | some es => y = .live sz es true
  | none => False
@[go_sem ↓] theorem liveQ_some (sz : Nat) (y : Obj) (es : List V) : liveQ sz y (some es) = (y = .live sz es true) := nd rfl
@[congr] theorem liveQ_congr {sz : Nat} {y : Obj} {a b : Option (List V)} (h : a = b) : liveQ sz y a = liveQ sz y b := by rw [h]
def oneQ (f : Nat → Option (Option Nat)) (H : Heap) (m0 : Nat) : Obj → Option Nat → Prop
  | .dead, some _ => True
  | .live sz es true, some k => liveQ sz (H k) (bkL (V.bk f) es)
  | x, some k => H k = x ∧ x.low m0 = true
  | x, none => x = .dead ∨ ∃ sz, x = .live sz [] true
def holdsQ (f : Nat → Option (Option Nat)) (H : Heap) (m0 : Nat) : List (Option Nat) → List Obj → Prop
  | [], [] => True
  | i :: ids, x :: O => oneQ f H m0 x i ∧ holdsQ f H m0 ids O
  | _, _ => False
@[go_sem ↓] theorem holdsQ_nil (f : Nat → Option (Option Nat)) (H : Heap) (m0 : Nat) : holdsQ f H m0 [] [] = True := nd rfl
@[go_sem ↓] theorem holdsQ_live (f : Nat → Option (Option Nat)) (H : Heap) (m0 k sz : Nat) (es : List V) (ids : List (Option Nat)) (O : List Obj) : holdsQ f H m0 (some k :: ids) (.live sz es true :: O) = (liveQ sz (H k) (bkL (V.bk f) es) ∧ holdsQ f H m0 ids O) := nd rfl
@[go_sem ↓] theorem holdsQ_kill (f : Nat → Option (Option Nat)) (H : Heap) (m0 : Nat) (k : Nat) (ids : List (Option Nat)) (O : List Obj) : holdsQ f H m0 (some k :: ids) (.dead :: O) = holdsQ f H m0 ids O := by simp [holdsQ, oneQ]
theorem holdsQ_of {f : Nat → Option (Option Nat)} {H : Heap} {m0 : Nat} : ∀ {ids : List (Option Nat)} {O : List Obj}, holdsQ f H m0 ids O → ids.length = O.length ∧ (∀ i k, ids[i]? = some (some k) → objsL O i = .dead ∨ ObjBk f m0 (objsL O i) (H k)) ∧
    (∀ i, ids[i]? = some none → objsL O i = .dead ∨ ∃ sz, objsL O i = .live sz [] true)
  | [], [], _ => by simp
  | [], _ :: _, h => h.elim
  | _ :: _, [], h => h.elim
  | o :: ids, x :: O, h => by
    obtain ⟨e1, e2, e3⟩ := holdsQ_of h.2
    have h1 := h.1
    refine ⟨by simp [e1], fun i k hk => ?_, fun i hi => ?_⟩
    · cases i with
      | zero =>
        simp at hk
        subst hk
        simp only [objsL]
        unfold oneQ at h1
        split at h1
        · exact .inl rfl
        · rename_i sz es k' hk'
          cases hk'
          cases hb : bkL (V.bk f) es with
          | none => rw [hb] at h1; exact h1.elim
          | some es' => rw [hb] at h1; exact .inr (.inr ⟨_, _, _, rfl, h1, hb⟩)
        · rename_i k' _ _ hk'
          cases hk'
          exact .inr (.inl ⟨h1.1.symm, by rw [h1.1]; exact h1.2⟩)
        · rename_i hk'; cases hk'
      | succ i => exact e2 i k (by simpa using hk)
    · cases i with
      | zero =>
        simp at hi
        subst hi
        simp only [objsL]
        unfold oneQ at h1
        split at h1
        · rename_i hk'; cases hk'
        · rename_i hk'; cases hk'
        · rename_i hk'; cases hk'
        · exact h1
      | succ i => exact e3 i (by simpa using hi)
theorem LeF.renQ {C : Ctx} {τ : Nat → V} {H : Heap} {n : Nat} {L : List (Nat × V)} {O : List Obj} {m : Nat} (ids : List (Option Nat)) (hids : idsB (maskI ids O) = true) (hm : m = O.length) (m0 : Nat) (h : holdsR τ (ids[·]?) L ∧ holdsQ (ids[·]?) H m0 ids O)
    (h0 : ∀ i, i < m0 → ids[i]? = some (some i) := by first | (intro i hi; exact absurd hi (Nat.not_lt_zero _)) | decide) (hlow : LowC C m0 := by first | exact LowC.top _ _ | assumption) : LeF C ⟨τ, H, n⟩ ⟨slotsL L, objsL O, m⟩ := by
  subst hm
  rintro a w ⟨γ, I, hS⟩
  obtain ⟨e1, e2, e3⟩ := holdsQ_of h.2
  exact ⟨_, I, hS.ren (ids := (ids[·]?)) hlow h0 (fun i j k hi hj li lj => idsB_ok hids i j k (maskI_get e1 i k hi li) (maskI_get e1 j k hj lj)) (slotsR_of h.1) e2 e3 fun i hi => objsL_out (by rw [← e1]; simpa using hi)⟩
section
variable {s : SF} {ps : List Nat} {x y : IC}
end
end Go.Idl
namespace Go.Idl
set_option linter.all false
open Go.RowKit
variable [Laid]
section
variable {P : Program} {C : Ctx}
theorem Sim.fixMap {γ : Places} {I : Imm} {τ : Nat → V} {H : Heap} {tm : Array Value} {w : World} (h : Sim C γ I τ H tm w) {id : Nat} {ks : List Value} {vs : List V} (hl : H id = .ext (.map ks vs)) {p : Place} (hp : γ id = some p) :
    Sim C γ (fun g x => I g x ∨ (g = p.blk ∧ x = 0)) τ (updH H id .dead) tm w := by
  have hlive : (H id).isLive := by rw [hl]; trivial
  have hd := h.dom id p hp
  exact (h.kill id).fixCells (fun _ _ h => .inl h) fun g x hx => by
    rcases hx with hx | ⟨rfl, _⟩
    · exact .inl hx
    · exact .inr ⟨hd.2.1, hd.2.2, h.idle hlive hp⟩
theorem opT_rangeM {t kt et : TypeId} (ht : P.underlying t = some (.map kt et)) {τ : Nat → V} {H : Heap} {n k id ty : Nat} {ks : List Value} {vs : List V} (hx : τ k = .mapr id) (hH : H id = .ext (.map ks vs)) (hf : vs.all V.isF = true) (hn : H n = .unborn)
    {K : V → SF → Prop} (hK : K (.ref n 0 0) ⟨τ, updH (updH H id .dead) n (.ext (.miter ks vs (List.range ks.length) none)), n + 1⟩) : OpT P C (pu (.range t (.tmp k)) ty) ⟨τ, H, n⟩ K := by
  intro tm ds w γ I hS
  left
  have hr := hS.tmp k
  rw [show (SF.mk τ H n).τ k = τ k from rfl, hx] at hr
  obtain ⟨p, ents, clock, q1, q2, q3, q4, q5, q6, q7, q8⟩ := map_at hS hH hr
  have s1 := hS.fixMap hH q1
  have hn' : updH H id .dead n = .unborn := by
    unfold updH
    split
    · rename_i e; subst e; rw [hn] at hH; cases hH
    · exact hn
  have s2 := s1.bornExt hn' (x := .miter ks vs (List.range ks.length) none) (o := .mapIter (some p.blk) clock #[] clock) fun γ' w' _ hp => by
    refine ⟨p.blk, clock, #[], clock, ents, clock, rfl, .inr ⟨rfl, rfl⟩, hp.raw _ _ _ (.inr ⟨rfl, rfl⟩) q3, q5, q6, q7.2, q7.1, Nat.le_refl _, Nat.le_refl _, fun j e he => ?_, fun j x e hx he => ?_, fun j hj => by cases hj⟩
    · have hj := (Array.getElem?_eq_some_iff.1 he).1
      have : ks.length = ents.size := by rw [← q6]; simp
      simp [this, hj]
    · rw [List.all_eq_true] at hf
      exact (((q8 j x e hx he).frozenF (hf x (List.mem_of_getElem? hx))).mono (I' := fun g x => I g x ∨ (g = p.blk ∧ x = 0)) (γ' := noPlaces) (Pres.refl _ _) (fun _ _ h => .inl h) fun _ _ h => h).mono hp (fun _ _ h => h) fun _ _ h => h
  refine ⟨.pointer (some ⟨w.heap.size, 0, none⟩), _, _, _, _, _, ?_, hK, s2, ?_⟩
  · have e1 : (⟨tm, ds⟩ : Act).eval (.tmp k) = .map (some p.blk) := q2
    simp only [pu, execOp]
    rw [e1]
    simp only [Sem.run_bind, run_range_map w t kt et p.blk ents clock ht q3, Result.andThen, Sem.run_pure]
  · have := Rep.ref (I := fun g x => I g x ∨ (g = p.blk ∧ x = 0)) (w := w.alloc (.mapIter (some p.blk) clock #[] clock)) (updP γ n ⟨w.heap.size, 0, 0⟩) n 0 0 ⟨w.heap.size, 0, 0⟩ (by simp [updP])
    simpa using this
theorem opT_nextM {τ : Nat → V} {H : Heap} {n k it ty : Nat} {ks : List Value} {vs : List V} {left : List Nat} {last : Option Nat} (hx : τ k = .ref it 0 0) (hH : H it = .ext (.miter ks vs left last)) {K : V → SF → Prop}
    (h0 : (∀ j, j < ks.length → j ∉ left) → K (.tup [.sc (.bool false)]) ⟨τ, H, n⟩)
    (h1 : ∀ j, j ∈ left → j < ks.length → K (.tup [.sc (.bool true), .any, .any]) ⟨τ, updH H it (.ext (.miter ks vs (left.filter (· ≠ j)) (some j))), n⟩) : OpT P C (pu (.next (.tmp k) false) ty) ⟨τ, H, n⟩ K := by
  intro tm ds w γ I hS
  left
  have hr := hS.tmp k
  rw [show (SF.mk τ H n).τ k = τ k from rfl, hx] at hr
  obtain ⟨p, hat⟩ := hS.ext it _ hH
  have hat' := hat
  obtain ⟨g1, ⟨g2, g3⟩, o, g4, g, since, seen, c0, ents, clock, rfl, e2, e3, e4, e5, e6, e7, e8, e9, e10, e11, e12⟩ := hat
  have hks : ks.length = ents.size := by rw [← e5]; simp
  have hev : (⟨tm, ds⟩ : Act).eval (.tmp k) = tm.getD k undef := rfl
  generalize tm.getD k undef = u at hr hev
  cases hr with
  | ref _ _ _ _ q hq =>
    rw [g1] at hq
    cases hq
    simp only [g2, Nat.zero_mul, Nat.add_zero] at hev
    rcases run_next_at (P := P) w ty p.blk g since c0 seen ents clock g4 e3 (fun x hx => e7 x (by simpa using hx)) e8 with ⟨hz, hrun⟩ | ⟨e, he, w1, hw1, hrun⟩
    · refine ⟨.tuple #[.bool false], w, _, _, γ, I, ?_, h0 fun j hj hjl => ?_, hS, ?_⟩
      · simp only [pu, execOp]
        rw [hev]
        simp only [Sem.run_bind, hrun, Result.andThen, Sem.run_pure]
      · have hj' : j < ents.size := by omega
        have h2 := (e10 j ents[j] (by simp [hj'])).1 hjl
        have hmem : ents[j] ∈ leftOf ents seen := by simp [leftOf, h2]; simpa using h2
        have : 0 < (leftOf ents seen).size := Array.size_pos_of_mem hmem
        omega
      · refine .tup _ _ _ rfl fun j c u hc hu => ?_
        match j with
        | 0 => simp at hc hu; subst hc hu; exact .sc _ _
        | j + 1 => simp at hc
    · have hel : e ∈ ents ∧ seen.contains e.born = false := by
        have := he
        simp only [leftOf, Array.toList_filter, List.mem_filter, Array.mem_toList_iff, Bool.not_eq_true'] at this
        exact this
      obtain ⟨j, hj⟩ := Array.getElem?_of_mem hel.1
      have hjl : j < ents.size := (Array.getElem?_eq_some_iff.1 hj).1
      have hleft := (e10 j e hj).2 hel.2
      have hS1 : Sim C γ I τ H tm w1 := by
        rcases hw1 with rfl | rfl
        · exact hS
        · exact hS.drawn _
      have hat1 : ExtAt γ I w1 it (.miter ks vs left last) p := by
        rcases hw1 with rfl | rfl
        · exact hat'
        · exact hat'.mono (w' := w.drew) ⟨fun _ _ _ => rfl, fun _ c _ _ h => ⟨c, h, rfl⟩, fun _ _ _ _ h => h⟩ (fun _ _ h => h) (fun _ _ h => h) rfl fun _ h => h
      have g4' : w1.heap[p.blk]? = some (.mapIter (some g) since seen c0) := by rcases hw1 with rfl | rfl <;> exact g4
      have e3' : w1.heap[g]? = some (.map ents clock) := by rcases hw1 with rfl | rfl <;> exact e3
      have e11' : ∀ (j : Nat) (x : V) (e : MapEntry), vs[j]? = some x → ents[j]? = some e → Rep I w1 noPlaces x e.val := by
        rcases hw1 with rfl | rfl
        · exact e11
        · exact fun j x e hx he => (e11 j x e hx he).drawn _
      have hs := hS1.setExt hH hat1 (x' := .miter ks vs (left.filter (· ≠ j)) (some j)) (o := .mapIter (some g) since (seen.push e.born) clock) (fun c t m => by rw [g4']; simp) fun w' hp => by
        refine ⟨g, since, _, clock, ents, clock, rfl, e2, hp.raw _ _ _ e2 e3', e4, e5, e6, e7, e9, e9, fun j' e' he' => ?_, fun j x e hx he => (e11' j x e hx he).mono hp (fun _ _ h => h) fun _ _ h => h, fun j' hj' => ?_⟩
        · have hb : e'.born = e.born ↔ j' = j := by
            constructor
            · intro hb
              have h1 : (ents.toList.map (·.born))[j']? = some e.born := by simp [he', hb]
              have h2 : (ents.toList.map (·.born))[j]? = some e.born := by simp [hj]
              have hlt : j' < (ents.toList.map (·.born)).length := (List.getElem?_eq_some_iff.1 h1).1
              exact (List.getElem?_inj hlt e6).1 (h1.trans h2.symm)
            · rintro rfl
              rw [hj] at he'
              cases he'
              rfl
          have h3 := e10 j' e' he'
          simp only [List.mem_filter, h3, Array.contains_push, Bool.or_eq_false_iff]
          simp [hb]
        · cases hj'
          exact ⟨e, seen, hj, rfl, rfl⟩
      refine ⟨.tuple #[.bool true, e.key, e.val], _, _, _, γ, I, ?_, h1 j hleft (by omega), hs, ?_⟩
      · simp only [pu, execOp]
        rw [hev]
        simp only [Sem.run_bind, hrun, Result.andThen, Sem.run_pure]
        rfl
      · refine .tup _ _ _ rfl fun j c u hc hu => ?_
        match j with
        | 0 => simp at hc hu; subst hc hu; exact .sc _ _
        | 1 => simp at hc hu; subst hc hu; exact .any _ _
        | 2 => simp at hc hu; subst hc hu; exact .any _ _
        | j + 3 => simp at hc
theorem opT_entryM {τ : Nat → V} {H : Heap} {n k it ty : Nat} {ks : List Value} {vs : List V} {left : List Nat} {j : Nat} (hx : τ k = .ref it 0 0) (hH : H it = .ext (.miter ks vs left (some j))) {key : Value} {v : V} (hk : ks[j]? = some key) (hv : vs[j]? = some v) {K : V → SF → Prop}
    (hK : K (.tup [V.ofV key, v]) ⟨τ, H, n⟩) : OpT P C (pu (.entry (.tmp k)) ty) ⟨τ, H, n⟩ K := by
  intro tm ds w γ I hS
  left
  have hr := hS.tmp k
  rw [show (SF.mk τ H n).τ k = τ k from rfl, hx] at hr
  obtain ⟨p, g1, ⟨g2, g3⟩, o, g4, g, since, seen, c0, ents, clock, rfl, e2, e3, e4, e5, e6, e7, e8, e9, e10, e11, e12⟩ := hS.ext it _ hH
  obtain ⟨e, seen', he, rfl, rfl⟩ := e12 j rfl
  have hev : (⟨tm, ds⟩ : Act).eval (.tmp k) = tm.getD k undef := rfl
  generalize tm.getD k undef = u at hr hev
  cases hr with
  | ref _ _ _ _ q hq =>
    rw [g1] at hq
    cases hq
    simp only [g2, Nat.zero_mul, Nat.add_zero] at hev
    have hkey : e.key = key := by
      have : (ents.toList.map (·.key))[j]? = some key := by rw [e5]; exact hk
      simpa [he] using this
    refine ⟨.tuple #[e.key, e.val], w, _, _, γ, I, ?_, hK, hS, ?_⟩
    · simp only [pu, execOp]
      rw [hev]
      have he' : e ∈ ents.toList := by simpa using Array.mem_of_getElem? he
      simp only [Sem.run_bind, run_entry_at w p.blk g since seen' ents _ e g4 e3 he' e6, Result.andThen, Sem.run_pure]
    · refine .tup _ _ _ rfl fun j' c u hc hu => ?_
      match j' with
      | 0 => simp at hc hu; subst hc hu; rw [hkey]; exact Rep.ofV _
      | 1 => simp at hc hu; subst hc hu; exact (e11 j _ e hv he).mono (Pres.refl _ _) (fun _ _ h => h) (by simp [noPlaces])
      | j' + 2 => simp at hc
theorem stepI_rangeM {Φ : Specs} {Q : SF → Prop} {rest : List IOp} {d : Nat} {t kt et : TypeId} (ht : P.underlying t = some (.map kt et)) {τ : Nat → V} {H : Heap} {n k id ty : Nat} {ks : List Value} {vs : List V} {E : Option (V × List (Nat × Obj))} (hx : τ k = .mapr id) (hH : H id = .ext (.map ks vs)) (hf : vs.all V.isF = true) (hn : H n = .unborn) (hE : E = none)
    (h : seqI P Φ C Q rest ⟨updT τ d (.ref n 0 0), updH (updH H id .dead) n (.ext (.miter ks vs (List.range ks.length) none)), n + 1⟩) : stepI P Φ C Q rest (some d) (some (.opx (pu (.range t (.tmp k)) ty))) τ H n E := by
  subst hE
  exact opT_rangeM (K := fun v s' => seqI P Φ C Q rest ⟨updT τ d v, s'.H, s'.n⟩) ht hx hH hf hn h
theorem stepI_nextM {Φ : Specs} {Q : SF → Prop} {rest : List IOp} {d : Nat} {τ : Nat → V} {H : Heap} {n k it ty : Nat} {ks : List Value} {vs : List V} {left : List Nat} {last : Option Nat} {E : Option (V × List (Nat × Obj))} (hx : τ k = .ref it 0 0) (hH : H it = .ext (.miter ks vs left last)) (hE : E = none)
    (h0 : (∀ j, j < ks.length → j ∉ left) → seqI P Φ C Q rest ⟨updT τ d (.tup [.sc (.bool false)]), H, n⟩)
    (h1 : ∀ j, j ∈ left → j < ks.length → seqI P Φ C Q rest ⟨updT τ d (.tup [.sc (.bool true), .any, .any]), updH H it (.ext (.miter ks vs (left.filter (· ≠ j)) (some j))), n⟩) :
    stepI P Φ C Q rest (some d) (some (.opx (pu (.next (.tmp k) false) ty))) τ H n E := by
  subst hE
  exact opT_nextM (K := fun v s' => seqI P Φ C Q rest ⟨updT τ d v, s'.H, s'.n⟩) hx hH h0 h1
theorem stepI_entryM {Φ : Specs} {Q : SF → Prop} {rest : List IOp} {d : Nat} {τ : Nat → V} {H : Heap} {n k it ty : Nat} {ks : List Value} {vs : List V} {left : List Nat} {j : Nat} {E : Option (V × List (Nat × Obj))} (hx : τ k = .ref it 0 0) (hH : H it = .ext (.miter ks vs left (some j))) {key : Value} {v : V} (hk : ks[j]? = some key) (hv : vs[j]? = some v) (hE : E = none)
    (h : seqI P Φ C Q rest ⟨updT τ d (.tup [V.ofV key, v]), H, n⟩) : stepI P Φ C Q rest (some d) (some (.pur (pu (.entry (.tmp k)) ty))) τ H n E := by
  subst hE
  exact opT_entryM (K := fun v s' => seqI P Φ C Q rest ⟨updT τ d v, s'.H, s'.n⟩) hx hH hk hv h
def SortT (P : Program) (f : FuncId) (k : Nat) : Prop :=
  ∀ (C : Ctx) (g : FuncId), enters P g = true → ∀ (F : List V → Option V), Contract P g F → ∀ (s : SF) (id len : Nat) (es : List V) (cd : V → V → Int),
    s.H id = .live k es true → len ≤ es.length → len < 4611686018427387904 →
    (∀ e, e ∈ es.take len → ∃ cs, e = .agg cs) → (∀ e, e ∈ es.take len → e.isF = true) →
    (∀ a, a ∈ es.take len → ∀ b, b ∈ es.take len → F [a, b] = some (.sc (.int .i64 (cd a b)))) →
    (∀ a, a ∈ es.take len → ¬ cd a a < 0) →
    (∀ a, a ∈ es.take len → ∀ b, b ∈ es.take len → ∀ c, c ∈ es.take len → cd a b < 0 → cd b c < 0 → cd a c < 0) →
    (∀ a, a ∈ es.take len → ∀ b, b ∈ es.take len → ∀ c, c ∈ es.take len → ¬ cd a b < 0 → ¬ cd b c < 0 → ¬ cd a c < 0) →
    ∀ (K : V → SF → Prop), (∀ es' : List V, es'.Perm (es.take len) → es'.Pairwise (fun a b => ¬ cd b a < 0) → K (.tup []) ⟨s.τ, updH s.H id (.live k (es' ++ es.drop len) true), s.n⟩) →
    CallT P C f [.own id 0 len, .sc (.func (.func g) #[] #[])] s K
end
end Go.Idl
namespace Go.Idl
set_option linter.all false
open Go.RowKit
variable [Laid]
theorem set_same (H : Heap) (id : Nat) (o : Idl.Obj) (h : H id = o) : updH H id o = H := by
  funext k
  unfold updH
  split
  · rename_i e; rw [e, h]
  · rfl
theorem inv_sound {P : Program} {C : Ctx} {n : Nat} {r : Option Nat} {Φ : Specs} (hΦ : Met P Φ) (hm : P.follows .mixedOrders = true) {ops : Array Oper} {id : Nat} {ds : List Deferred} {J : (Nat → Bool) → SF → Prop} {Q : Exit → Act → World → Prop} {s : SF} {a : Act} {w : World}
    (hok : ops.toList.all (dstOk n) = true) (hdr : drawOk ops = true) (hn : a.tmps.size = n) (hds : a.defers = ds) (hS : SimF C s a w) (h0 : J (fun _ => false) s)
    (hstep : ∀ (S : Nat → Bool) (s : SF) (j : Nat) (o : Oper), ops[j]? = some o → S j = false → (∀ k, ((befs ops.toList []).getD j 0).testBit k = true → S k = true) → J S s → wpSeq P Φ C ops (J fun k => if k = j then true else S k) [o] s)
    (hend : ∀ (S : Nat → Bool) (s : SF), (∀ k, k < ops.size → S k = true) → J S s → ∀ a' w', a'.tmps.size = n → a'.defers = ds → SimF C s a' w' → Q .normal a' w') : (Code.region id ops true).wpIn (rf r) 0 P Q a w := by
  have hback : ∀ j oj, ops[j]? = some oj → ∀ e, e ∈ oj.after → Region.binds .any e = true → e.on < j := by
    intro j oj hj e he hb
    simp only [drawOk, List.all_eq_true, List.mem_range, Bool.and_eq_true] at hdr
    have := (hdr j (Array.getElem?_eq_some_iff.1 hj).1).1
    rw [Array.getD_eq_getD_getElem?, hj, Option.getD_some, Array.all_eq_true_iff_forall_mem] at this
    have := this e he
    simpa [hb] using this
  let S : Array Bool → Nat → Bool := fun listed k => listed.getD k false
  let Inv : Array Bool → Act → World → Prop := fun listed a w => a.tmps.size = n ∧ a.defers = ds ∧ Down ops (S listed) ∧ ∃ s, J (S listed) s ∧ SimF C s a w
  have hS0 : S (Array.replicate ops.size false) = fun _ => false := by
    funext k
    simp only [S, Array.getD_eq_getD_getElem?, Array.getElem?_replicate]
    split <;> rfl
  refine wpIn_region_any hm (wpAny_inv Inv ?_ ?_ ?_ ops.size _ a _ ?_ (by simp) (unl_new _ _ (Nat.le_refl _)))
  · rintro listed a' w' ⟨h1, h2, _, s', h4, h5⟩ hsz hall
    refine hend _ s' (fun k hk => ?_) h4 a' w' h1 h2 h5
    have := hall k hk
    simp only [S]
    rw [Array.getD_eq_getD_getElem?] at this ⊢
    cases hh : listed[k]? with
    | none => rw [Array.getElem?_eq_none_iff] at hh; omega
    | some b => rw [hh] at this; simpa using this
  · rintro listed a' w' _ hsz hr
    intro k
    induction k using Nat.strongRecOn with
    | _ k ih =>
      intro hk
      cases hh : listed.getD k true with
      | true => rfl
      | false =>
        exfalso
        have hmem : k ∈ Region.ready .any ops listed := by
          rw [mem_ready]
          refine ⟨hh, ops[k], by simp [hk], fun e he hb => ?_⟩
          have hlt := hback k ops[k] (by simp [hk]) e he hb
          have := ih e.on hlt (by omega)
          rw [Array.getD_eq_getD_getElem?] at this ⊢
          cases hh2 : listed[e.on]? with
          | none => rw [Array.getElem?_eq_none_iff] at hh2; omega
          | some b => rw [hh2] at this; simpa using this
        rw [hr] at hmem
        cases hmem
  · rintro listed a' w' i ⟨h1, h2, hdown, s', h4, h5⟩ hsz hi
    obtain ⟨h0, oi, hoi, hpre⟩ := mem_ready.1 hi
    have hilt : i < ops.size := (Array.getElem?_eq_some_iff.1 hoi).1
    have hsi : S listed i = false := by
      simp only [S]
      rw [Array.getD_eq_getD_getElem?] at h0 ⊢
      cases hh : listed[i]? with
      | none => simp
      | some b => rw [hh] at h0; simpa using h0
    have hpre' : ∀ o, ops[i]? = some o → ∀ e, e ∈ o.after → Region.binds .any e = true → S listed e.on = true := fun o ho e he hb => by
      rw [hoi] at ho
      cases ho
      exact hpre e he hb
    have hbefI : ∀ k, ((befs ops.toList []).getD i 0).testBit k = true → S listed k = true := fun k hk =>
      befs_down hdown ops.toList [] (by simp) (by simp) i k hk hpre'
    have hdown' : Down ops (S (listed.setIfInBounds i true)) := by
      intro k ok hk hsk e he hb
      have keep : ∀ q, S listed q = true → S (listed.setIfInBounds i true) q = true := fun q hq => getD_set_true hq
      by_cases e' : k = i
      · subst e'
        exact keep _ (hpre' ok hk e he hb)
      · refine keep _ (hdown k ok hk ?_ e he hb)
        simp only [S] at hsk ⊢
        rw [getD_set_ne false (fun h => e' h.symm)] at hsk
        exact hsk
    have hset : S (listed.setIfInBounds i true) = fun k => if k = i then true else S listed k := by
      funext k
      simp only [S]
      by_cases e : k = i
      · subst e; simp [hsz, hilt]
      · rw [if_neg e, getD_set_ne false (fun h => e h.symm)]
    have hdi : dstOk n oi = true := by
      rw [List.all_eq_true] at hok
      exact hok oi (by simpa using Array.mem_of_getElem? hoi)
    exact wpSeq_step (n := n) (ds := ds) hΦ hoi hdi h1 h2 h5 (hstep _ s' i oi hoi hsi hbefI h4) fun a2 w2 s2 k1 k2 k3 k4 => ⟨k1, k2, hdown', s2, by rw [hset]; exact k3, k4⟩
  · refine ⟨hn, hds, ?_, s, ?_, ?_⟩
    rotate_left
    · rw [hS0]; exact h0
    · obtain ⟨γ, I, hS⟩ := hS
      exact ⟨γ, I, hS.drawn _⟩
    · intro i o _ hi
      rw [hS0] at hi
      cases hi
theorem cOps_get {P : Program} {ops : Array Oper} : ∀ (l : List Oper) (il : List IOp), cOps P ops l = some il → ∀ (j : Nat) (o : Oper), l[j]? = some o → ∃ io, il[j]? = some io ∧ cOps P ops [o] = some [io]
  | [], il, _, j, o, h => by simp at h
  | x :: l, il, hc, j, o, h => by
    simp only [cOps] at hc
    split at hc
    · rename_i y ys h1 h2
      cases hc
      cases j with
      | zero =>
        simp only [List.getElem?_cons_zero, Option.some.injEq] at h
        subst h
        exact ⟨y, rfl, by simp [cOps, h1]⟩
      | succ j => exact cOps_get l ys h2 j o h
    · cases hc
theorem cOps_len {P : Program} {ops : Array Oper} : ∀ (l : List Oper) (il : List IOp), cOps P ops l = some il → il.length = l.length
  | [], il, h => by simp [cOps] at h; subst h; rfl
  | x :: l, il, hc => by
    simp only [cOps] at hc
    split at hc
    · rename_i y ys h1 h2
      cases hc
      rw [List.length_cons, List.length_cons, cOps_len l ys h2]
    · cases hc
theorem TriI.orders {P : Program} {Φ : Specs} {C : Ctx} {n : Nat} (hg : Good P Φ) (K : List Nat) {bef : List Nat} {ops : List IOp} {s : SF} {Q : Exit → SF → Prop} (J : (Nat → Bool) → SF → Prop) (h0 : J (fun _ => false) s)
    (hstep : ∀ (S : Nat → Bool) (s : SF) (j : Nat) (o : IOp), ops[j]? = some o → S j = false → (∀ k, (bef.getD j 0).testBit k = true → S k = true) → J S s → seqI P Φ C (J fun k => if k = j then true else S k) [o] s)
    (hend : ∀ (S : Nat → Bool) (s : SF), (∀ k, k < ops.length → S k = true) → J S s → Q .normal ⟨prune K s.τ, s.H, s.n⟩) : TriI P C n (.any bef ops) s Q := by
  intro c hc
  cases c <;> simp only [cCode] at hc
  case region id l d =>
    simp only [Option.map_eq_some_iff] at hc
    obtain ⟨l', hl, he⟩ := hc
    cases d with
    | true =>
      simp only [if_true] at he
      split at he
      · cases he
        intro hok ds a w hn hd hS
        simp only [okCode, Bool.and_eq_true, Bool.or_eq_true, Bool.not_eq_true'] at hok
        have hdr : drawOk l = true := hok.2.resolve_left (by simp)
        have hlen := cOps_len _ _ hl
        refine inv_sound hg.met hg.orders hok.1 hdr hn hd hS (J := J) h0 (fun S s j o ho hj hb hJ => ?_) (fun S s hall hJ a' w' h1 h2 h3 => ⟨h1, h2, _, hend S s (fun k hk => hall k (by rw [hlen] at hk; simpa using hk)) hJ, LeF.prune K s a' w' h3⟩)
        obtain ⟨io, hio, hc1⟩ := cOps_get _ _ hl j o (by simpa using ho)
        exact seqI_sound _ _ _ hc1 (hstep S s j io hio hj hb hJ)
      · cases he
    | false => simp at he
  all_goals first
    | cases hc
    | (split at hc <;> cases hc)
    | (simp only [Option.map_eq_some_iff] at hc; obtain ⟨l, hl, he⟩ := hc; cases he)
end Go.Idl
