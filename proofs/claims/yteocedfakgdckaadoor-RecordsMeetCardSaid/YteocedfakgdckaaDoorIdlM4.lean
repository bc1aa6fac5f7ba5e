import Derived.Test.YteocedfakgdckaaDoorIdlM3
import Derived.Laws.BytesString
import Derived.RangeFuncLeaves
import Derived.RangeFuncRecord
import Derived.Maps.RangeRun
import Derived.Laws.IdiomStrings
import Derived.Recover
import Derived.Tactics
import Derived.Tactics2
namespace Go.Idl
set_option linter.all false
open Go.RowKit
variable [Laid]
def V.bkA (f : Nat → Option (Option Nat)) : V → Option V
  | .own id off len => match f id with
    | some (some k) => some (.own k off len)
    | some none => if len = 0 then some (.sc (.slice none 0 0)) else none
    | none => none
  | .ref id idx off => match f id with
    | some (some k) => some (.ref k idx off)
    | _ => none
  | .mapr id => match f id with
    | some (some k) => some (.mapr k)
    | _ => none
  | .any => some .any
  | .sc v => some (.sc v)
  | .slice s es => some (.slice s es)
  | .mt => some .mt
  | .mapf ks vs => some (.mapf ks vs)
  | .elem e off => some (.elem e off)
  | _ => none
def bkL (f : V → Option V) : List V → Option (List V)
  | [] => some []
  | v :: vs => match f v, bkL f vs with
    | some x, some xs => some (x :: xs)
    | _, _ => none
def V.bkC (f : Nat → Option (Option Nat)) : V → Option V
  | .fn g xs ys => match bkL (V.bkA f) xs, bkL (V.bkA f) ys with
    | some xs', some ys' => some (.fn g xs' ys')
    | _, _ => none
  | v => v.bkA f
def V.bk (f : Nat → Option (Option Nat)) : V → Option V
  | .agg cs => (bkL (V.bkC f) cs).map .agg
  | v => v.bkC f
def renP (γ : Places) (f : Nat → Option (Option Nat)) : Places := fun id => match f id with
  | some (some k) => γ k
  | _ => none
variable {C : Ctx} {γ : Places} {I : Imm} {τ : Nat → V} {H : Heap} {tm : Array Value} {w : World} {ids : Nat → Option (Option Nat)}
theorem bkL_get {f : V → Option V} : ∀ {xs ys : List V}, bkL f xs = some ys → ys.length = xs.length ∧ ∀ (j : Nat) (x : V), xs[j]? = some x → ∃ y, ys[j]? = some y ∧ f x = some y
  | [], ys, h => by cases h; simp
  | x :: xs, ys, h => by
    simp only [bkL] at h
    split at h
    · rename_i a l h1 h2
      cases h
      obtain ⟨e1, e2⟩ := bkL_get h2
      refine ⟨by simp [e1], fun j z hz => ?_⟩
      cases j with
      | zero => simp at hz; subst hz; exact ⟨a, rfl, h1⟩
      | succ j => exact e2 j z (by simpa using hz)
    · cases h
theorem Rep.bkA {x y : V} {u : Value} (hb : x.bkA ids = some y) (h : Rep I w γ y u) : Rep I w (renP γ ids) x u := by
  cases x <;> simp only [V.bkA] at hb
  case own id off len =>
    split at hb
    · rename_i k hk
      cases hb
      cases h with
      | own _ _ _ _ cap p c t m hp hcap hbl hroom => exact .own _ _ _ _ _ p c t m (by simp [renP, hk, hp]) hcap hbl hroom
      | own0 => exact .own0 _ _ _ _
    · split at hb
      · rename_i hl
        cases hb
        subst hl
        cases h.sc_eq
        exact .own0 _ _ _ _
      · cases hb
    · cases hb
  case ref id idx off =>
    split at hb
    · rename_i k hk
      cases hb
      cases h with
      | ref _ _ _ _ p hp => exact .ref _ _ _ _ p (by simp [renP, hk, hp])
    · cases hb
  case mapr id =>
    split at hb
    · rename_i k hk
      cases hb
      cases h with
      | mapr _ _ p hp => exact .mapr _ _ p (by simp [renP, hk, hp])
    · cases hb
  case any => cases hb; exact .any _ _
  case sc v => cases hb; cases h.sc_eq; exact .sc _ _
  case slice s es =>
    cases hb
    cases h with
    | nilslice => exact .nilslice _ _ _ _
    | slice _ _ _ g o cap f hcap hsz hc h => exact .slice _ _ _ g o cap f hcap hsz hc h
  case mt => cases hb; cases h; exact .mt _ _
  case mapf => 
    cases hb
    cases h with
    | mapf _ ks vs r clock ents hI hr hl' hk h => exact .mapf _ _ _ _ _ _ hI hr hl' hk h
  case elem =>
    cases hb
    cases h with
    | elem _ e off g o f hc h => exact .elem _ _ _ _ _ f hc h
  all_goals cases hb
theorem Rep.bkC {x y : V} {u : Value} (hb : x.bkC ids = some y) (h : Rep I w γ y u) : Rep I w (renP γ ids) x u := by
  cases x with
  | fn f xs ys =>
    simp only [V.bkC] at hb
    split at hb
    · rename_i xs' ys' h1 h2
      cases hb
      obtain ⟨l1, g1⟩ := bkL_get h1
      obtain ⟨l2, g2⟩ := bkL_get h2
      cases h with
      | fn _ _ _ _ us vs e1 e2 e3 e4 =>
        refine .fn _ _ _ _ us vs (by omega) (by omega) (fun j c u hc hu => ?_) fun j c u hc hu => ?_
        · obtain ⟨y, hy, hf⟩ := g1 j c hc; exact (e3 j y u hy hu).bkA hf
        · obtain ⟨y, hy, hf⟩ := g2 j c hc; exact (e4 j y u hy hu).bkA hf
    · cases hb
  | _ => exact Rep.bkA (by simpa only [V.bkC] using hb) h
theorem Rep.bk {x y : V} {u : Value} (hb : x.bk ids = some y) (h : Rep I w γ y u) : Rep I w (renP γ ids) x u := by
  cases x with
  | agg cs =>
    simp only [V.bk, Option.map_eq_some_iff] at hb
    obtain ⟨cs', hcs, rfl⟩ := hb
    obtain ⟨l1, g1⟩ := bkL_get hcs
    cases h with
    | agg _ _ vs hlen hh =>
      refine .agg _ _ _ (by omega) fun j c u hc hu => ?_
      obtain ⟨y, hy, hf⟩ := g1 j c hc
      exact (hh j y u hy hu).bkC hf
  | _ => exact Rep.bkC (by simpa only [V.bk] using hb) h
theorem cut_ren {m0 : Nat} (h0 : ∀ i, i < m0 → ids i = some (some i)) : ∀ id p, cutP γ m0 id = some p → renP γ ids id = some p := fun id p hp => by
  unfold cutP at hp
  split at hp
  · rename_i hlt; simp only [renP, h0 id hlt]; exact hp
  · cases hp
theorem Rep.closed {m0 : Nat} (h0 : ∀ i, i < m0 → ids i = some (some i)) {x : V} {u : Value} (hl : x.low m0 = true) (h : Rep I w γ x u) : Rep I w (renP γ ids) x u :=
  (h.low hl).mono (Pres.refl I w) (fun _ _ h => h) (cut_ren h0)
theorem Rep.closedC {m0 : Nat} (h0 : ∀ i, i < m0 → ids i = some (some i)) {x : V} {u : Value} (hl : x.lowC m0 = true) (h : Rep I w γ x u) : Rep I w (renP γ ids) x u :=
  (h.lowC hl).mono (Pres.refl I w) (fun _ _ h => h) (cut_ren h0)
def idsOk (ids : List (Option Nat)) : Prop := ∀ i j k : Nat, ids[i]? = some (some k) → ids[j]? = some (some k) → i = j
def idsB : List (Option Nat) → Bool
  | [] => true
  | none :: l => idsB l
  | some k :: l => !l.contains (some k) && idsB l
theorem idsB_ok : ∀ {ids : List (Option Nat)}, idsB ids = true → idsOk ids
  | [], _ => fun i j k h => by simp at h
  | x :: l, h => by
    have hl : idsB l = true := by
      cases x with
      | none => exact h
      | some k => simp only [idsB, Bool.and_eq_true] at h; exact h.2
    have ih := idsB_ok hl
    intro i j k hi hj
    cases i with
    | zero =>
      cases j with
      | zero => rfl
      | succ j =>
        simp at hi hj
        subst hi
        simp only [idsB, Bool.and_eq_true, Bool.not_eq_true', List.contains_eq_mem, decide_eq_false_iff_not] at h
        exact absurd (List.mem_of_getElem? hj) h.1
    | succ i =>
      cases j with
      | zero =>
        simp at hi hj
        subst hj
        simp only [idsB, Bool.and_eq_true, Bool.not_eq_true', List.contains_eq_mem, decide_eq_false_iff_not] at h
        exact absurd (List.mem_of_getElem? hi) h.1
      | succ j =>
        simp at hi hj
        rw [ih i j k hi hj]
def ObjBk (ids : Nat → Option (Option Nat)) (m0 : Nat) (x y : Obj) : Prop := (x = y ∧ y.low m0 = true) ∨ ∃ sz es es', x = .live sz es true ∧ y = .live sz es' true ∧ bkL (V.bk ids) es = some es'
theorem ObjBk.live {m0 : Nat} {x y : Obj} (h : ObjBk ids m0 x y) : x.isLive ↔ y.isLive := by
  rcases h with ⟨rfl, _⟩ | ⟨sz, es, es', rfl, rfl, _⟩
  · rfl
  · exact ⟨fun _ => trivial, fun _ => trivial⟩
theorem ObjBk.born {m0 : Nat} {x y : Obj} (h : ObjBk ids m0 x y) (hy : y ≠ .unborn) : x ≠ .unborn := by
  rcases h with ⟨rfl, _⟩ | ⟨sz, es, es', rfl, rfl, _⟩
  · exact hy
  · exact fun h => by cases h
theorem bk_cells {e e' : V} (h : e.bk ids = some e') : e.cells.length = e'.cells.length ∧ ∀ (j : Nat) (x : V), e.cells[j]? = some x → ∃ x', e'.cells[j]? = some x' ∧ x.bkC ids = some x' := by
  cases e with
  | agg cs =>
    simp only [V.bk, Option.map_eq_some_iff] at h
    obtain ⟨cs', hcs, rfl⟩ := h
    obtain ⟨l1, g1⟩ := bkL_get hcs
    exact ⟨l1.symm, g1⟩
  | _ =>
    have key : e'.cells = [e'] := by
      simp only [V.bk, V.bkC, V.bkA] at h
      (repeat' split at h) <;> first | (cases h; rfl) | (cases h; done)
    rw [key]
    refine ⟨rfl, fun j x hx => ?_⟩
    cases j with
    | zero => simp only [V.cells, List.getElem?_cons_zero, Option.some.injEq] at hx; subst hx; exact ⟨e', rfl, by simpa only [V.bk] using h⟩
    | succ j => simp [V.cells] at hx
theorem Sim.ren (h : Sim C γ I τ H tm w) {m0 : Nat} (hlow : LowC C m0) (h0 : ∀ i, i < m0 → ids i = some (some i)) {τ' : Nat → V} {H' : Heap} (hinj : ∀ i j k : Nat, ids i = some (some k) → ids j = some (some k) → (H' i).isLive → (H' j).isLive → i = j)
    (hτ : ∀ t, τ' t = .any ∨ ∃ v, (τ' t).bk ids = some v ∧ v = τ t)
    (h1 : ∀ i k, ids i = some (some k) → H' i = .dead ∨ ObjBk ids m0 (H' i) (H k)) (h2 : ∀ i, ids i = some none → H' i = .dead ∨ ∃ sz, H' i = .live sz [] true) (h3 : ∀ i, ids i = none → H' i = .unborn) :
    Sim C (renP γ ids) I τ' H' tm w where
  below := h.below
  imm0 := h.imm0
  immB := h.immB
  immS := h.immS
  kept := fun fr hf t => (h.kept fr hf t).closed h0 (hlow fr hf t)
  tmp := fun t => by
    rcases hτ t with e | ⟨v, e, rfl⟩
    · rw [e]; exact .any _ _
    · exact Rep.bk e (h.tmp t)
  dom := fun id p hp => by
    unfold renP at hp
    split at hp
    · rename_i k hk
      obtain ⟨d1, d2, d3⟩ := h.dom k p hp
      refine ⟨?_, d2, d3⟩
      rcases h1 id k hk with e | e
      · rw [e]; exact fun h => by cases h
      · exact e.born d1
    · cases hp
  obj := fun id sz es mu hl => by
    cases hid : ids id with
    | none => rw [h3 id hid] at hl; cases hl
    | some o =>
      cases o with
      | none =>
        rcases h2 id hid with e | ⟨sz', e⟩
        · rw [e] at hl; cases hl
        · rw [e] at hl; cases hl; exact .inl ⟨rfl, by simp [renP, hid]⟩
      | some k =>
        have hob : ObjBk ids m0 (H' id) (H k) := by
          rcases h1 id k hid with e | e
          · rw [e] at hl; cases hl
          · exact e
        rcases hob with ⟨e1, e2⟩ | ⟨sz', es1, es', e1, e2, e3⟩
        · rw [e1] at hl
          rw [hl] at e2
          simp only [Obj.low, List.all_eq_true] at e2
          rcases h.obj k sz es mu hl with ⟨g1, g2⟩ | ⟨p, c, t, ha⟩
          · exact .inl ⟨g1, by simp [renP, hid, g2]⟩
          · refine .inr ⟨p, c, t, ⟨by simp [renP, hid, ha.place], ha.size, ha.blk, ha.len, fun i j e x he hx => ?_, ha.mutb, ha.fix, ha.quiet⟩⟩
            obtain ⟨u, hu, hr⟩ := ha.cell i j e x he hx
            exact ⟨u, hu, hr.closedC h0 (low_cell (e2 e (List.mem_of_getElem? he)) hx)⟩
        · rw [e1] at hl
          cases hl
          obtain ⟨l1, g1⟩ := bkL_get e3
          rcases h.obj k sz es' true e2 with ⟨q1, q2⟩ | ⟨p, c, t, ha⟩
          · exact .inl ⟨List.eq_nil_of_length_eq_zero (by rw [← l1, q1]; rfl), by simp [renP, hid, q2]⟩
          · refine .inr ⟨p, c, t, ⟨by simp [renP, hid, ha.place], ha.size, ha.blk, fun e he => ?_, fun i j e x he hx => ?_, ha.mutb, by simp, ha.quiet⟩⟩
            · obtain ⟨i, hi, rfl⟩ := List.getElem_of_mem he
              obtain ⟨e', he', hb⟩ := g1 i _ (List.getElem?_eq_getElem hi)
              rw [(bk_cells hb).1]
              exact ha.len e' (List.mem_of_getElem? he')
            · obtain ⟨e', he', hb⟩ := g1 i e he
              obtain ⟨x', hx', hbx⟩ := (bk_cells hb).2 j x hx
              obtain ⟨u, hu, hr⟩ := ha.cell i j e' x' he' hx'
              exact ⟨u, hu, hr.bkC hbx⟩
  ext := fun id x hl => by
    cases hid : ids id with
    | none => rw [h3 id hid] at hl; cases hl
    | some o =>
      cases o with
      | none =>
        rcases h2 id hid with e | ⟨sz', e⟩
        · rw [e] at hl; cases hl
        · rw [e] at hl; cases hl
      | some k =>
        obtain ⟨e1, e2⟩ : H' id = H k ∧ (H k).low m0 = true := by
          rcases h1 id k hid with e | e | ⟨sz', es1, es', e1, _, _⟩
          · rw [e] at hl; cases hl
          · exact e
          · rw [e1] at hl; cases hl
        rw [e1] at hl
        rw [hl] at e2
        obtain ⟨p, g1, g2, o, g3, g4⟩ := h.ext k x hl
        refine ⟨p, by simp [renP, hid, g1], g2, o, g3, ?_⟩
        cases x with
        | iter s pos => exact g4
        | raw o' => exact g4
        | miter ks vs left last => exact g4
        | map ks vs =>
          obtain ⟨ents, clock, k1, k2, k3, k4, k5⟩ := g4
          simp only [Obj.low, Ext.low, List.all_eq_true] at e2
          exact ⟨ents, clock, k1, k2, k3, k4, fun j x e hx he => (k5 j x e hx he).closed h0 (e2 x (List.mem_of_getElem? hx))⟩
  inj := fun id id' p p' hl hl' hp hp' hb => by
    unfold renP at hp hp'
    split at hp
    · rename_i k hk
      split at hp'
      · rename_i k' hk'
        have l1 : (H k).isLive := by
          rcases h1 id k hk with e | e
          · rw [e] at hl; exact hl.elim
          · exact e.live.1 hl
        have l2 : (H k').isLive := by
          rcases h1 id' k' hk' with e | e
          · rw [e] at hl'; exact hl'.elim
          · exact e.live.1 hl'
        have := h.inj k k' p p' l1 l2 hp hp' hb
        subst this
        exact hinj id id' k hk hk' hl hl'
      · cases hp'
    · cases hp
def holdsR (τ : Nat → V) (ids : Nat → Option (Option Nat)) : List (Nat × V) → Prop
  | [] => True
  | (k, v) :: L => v.bk ids = some (τ k) ∧ holdsR τ ids L
@[go_sem ↓] theorem holdsR_nil (τ : Nat → V) (ids : Nat → Option (Option Nat)) : holdsR τ ids [] = True := nd rfl
@[go_sem ↓] theorem holdsR_cons (τ : Nat → V) (ids : Nat → Option (Option Nat)) (k : Nat) (v : V) (L : List (Nat × V)) : holdsR τ ids ((k, v) :: L) = (v.bk ids = some (τ k) ∧ holdsR τ ids L) := nd rfl
def oneO (H : Heap) (m0 : Nat) (x : Obj) : Option Nat → Prop
  | some k => x = .dead ∨ (H k = x ∧ x.low m0 = true)
  | none => x = .dead ∨ ∃ sz, x = .live sz [] true
def holdsP (H : Heap) (m0 : Nat) : List (Option Nat) → List Obj → Prop
  | [], [] => True
  | i :: ids, x :: O => oneO H m0 x i ∧ holdsP H m0 ids O
  | _, _ => False
@[go_sem ↓] theorem holdsP_nil (H : Heap) (m0 : Nat) : holdsP H m0 [] [] = True := nd rfl
@[go_sem ↓] theorem holdsP_some (H : Heap) (m0 : Nat) (k : Nat) (sz : Nat) (es : List V) (mu : Bool) (ids : List (Option Nat)) (O : List Obj) : holdsP H m0 (some k :: ids) (.live sz es mu :: O) = ((H k = .live sz es mu ∧ (Obj.live sz es mu).low m0 = true) ∧ holdsP H m0 ids O) := by simp [holdsP, oneO]
@[go_sem ↓] theorem holdsP_live (H : Heap) (m0 : Nat) (sz : Nat) (es : List V) (mu : Bool) (ids : List (Option Nat)) (O : List Obj) : holdsP H m0 (none :: ids) (.live sz es mu :: O) = ((es = [] ∧ mu = true) ∧ holdsP H m0 ids O) := by simp [holdsP, oneO]
theorem slotsR_of {τ : Nat → V} : ∀ {L : List (Nat × V)}, holdsR τ ids L → ∀ t, slotsL L t = .any ∨ ∃ v, (slotsL L t).bk ids = some v ∧ v = τ t
  | [], _, t => .inl rfl
  | (k, v) :: L, h, t => by
    rw [slotsL_cons]
    by_cases e : t = k
    · subst e; rw [if_pos rfl]; exact .inr ⟨_, h.1, rfl⟩
    · rw [if_neg e]; exact slotsR_of h.2 t
theorem holdsP_of {H : Heap} {m0 : Nat} : ∀ {ids : List (Option Nat)} {O : List Obj}, holdsP H m0 ids O → ids.length = O.length ∧ (∀ i k, ids[i]? = some (some k) → objsL O i = .dead ∨ (objsL O i = H k ∧ (H k).low m0 = true)) ∧
    (∀ i, ids[i]? = some none → objsL O i = .dead ∨ ∃ sz, objsL O i = .live sz [] true)
  | [], [], _ => by simp
  | [], _ :: _, h => h.elim
  | _ :: _, [], h => h.elim
  | o :: ids, x :: O, h => by
    obtain ⟨e1, e2, e3⟩ := holdsP_of h.2
    refine ⟨by simp [e1], fun i k hk => ?_, fun i hi => ?_⟩
    · cases i with
      | zero =>
        simp at hk
        subst hk
        rcases h.1 with g | ⟨g1, g2⟩
        · exact .inl g
        · exact .inr ⟨g1.symm, by rw [g1]; exact g2⟩
      | succ i => exact e2 i k (by simpa using hk)
    · cases i with
      | zero =>
        simp at hi
        subst hi
        exact h.1
      | succ i => exact e3 i (by simpa using hi)
def maskI : List (Option Nat) → List Obj → List (Option Nat)
  | _ :: ids, .dead :: O => none :: maskI ids O
  | i :: ids, _ :: O => i :: maskI ids O
  | _, _ => []
theorem maskI_get : ∀ {ids : List (Option Nat)} {O : List Obj}, ids.length = O.length → ∀ (i : Nat) (k : Nat), ids[i]? = some (some k) → (objsL O i).isLive → (maskI ids O)[i]? = some (some k)
  | [], O, _, i, k, h, _ => by simp at h
  | _ :: _, [], hl, i, k, _, _ => by simp at hl
  | a :: ids, x :: O, hl, i, k, h, hv => by
    have ih := fun i h hv => maskI_get (ids := ids) (O := O) (by simpa using hl) i k h hv
    cases i with
    | zero =>
      cases x with
      | dead => exact hv.elim
      | unborn => exact hv.elim
      | live => simpa [maskI] using h
      | ext => simpa [maskI] using h
    | succ i =>
      have := ih i (by simpa using h) hv
      cases x <;> simpa [maskI] using this
theorem LeF.ren {C : Ctx} {τ : Nat → V} {H : Heap} {n : Nat} {L : List (Nat × V)} {O : List Obj} {m : Nat} (ids : List (Option Nat)) (hids : idsB (maskI ids O) = true) (hm : m = O.length) (m0 : Nat) (h : holdsR τ (ids[·]?) L ∧ holdsP H m0 ids O)
    (h0 : ∀ i, i < m0 → ids[i]? = some (some i) := by first | (intro i hi; exact absurd hi (Nat.not_lt_zero _)) | decide) (hlow : LowC C m0 := by first | exact LowC.top _ _ | assumption) : LeF C ⟨τ, H, n⟩ ⟨slotsL L, objsL O, m⟩ := by
  subst hm
  rintro a w ⟨γ, I, hS⟩
  obtain ⟨e1, e2, e3⟩ := holdsP_of h.2
  exact ⟨_, I, hS.ren (ids := (ids[·]?)) hlow h0 (fun i j k hi hj li lj => idsB_ok hids i j k (maskI_get e1 i k hi li) (maskI_get e1 j k hj lj)) (slotsR_of h.1) (fun i k hk => (e2 i k hk).imp id .inl) e3 fun i hi => objsL_out (by rw [← e1]; simpa using hi)⟩
attribute [go_sem] V.bk V.bkC V.bkA bkL
def extH (H0 : Heap) (n : Nat) (O : List Obj) : Heap := fun id => if id < n then H0 id else objsL O (id - n)
@[go_sem] theorem extH_0 (H0 : Heap) (n : Nat) (O : List Obj) : extH H0 n O n = objsL O 0 := by simp [extH]
@[go_sem] theorem extH_k (H0 : Heap) (n k : Nat) (O : List Obj) : extH H0 n O (n + k) = objsL O k := by simp [extH]; omega
theorem extH_lt {H0 : Heap} {n id : Nat} {O : List Obj} (h : id < n) : extH H0 n O id = H0 id := by simp [extH, h]
def renF (n : Nat) (ids : List (Option Nat)) : Nat → Option (Option Nat) := fun id => if id < n then some (some id) else ids[id - n]?
@[go_sem] theorem renF_0 (n : Nat) (ids : List (Option Nat)) : renF n ids n = ids[0]? := by simp [renF]
@[go_sem] theorem renF_k (n k : Nat) (ids : List (Option Nat)) : renF n ids (n + k) = ids[k]? := by simp [renF]; omega
theorem renF_lt {n id : Nat} {ids : List (Option Nat)} (h : id < n) : renF n ids id = some (some id) := by simp [renF, h]
theorem LeF.renX {C : Ctx} {τ : Nat → V} {H : Heap} {n0 : Nat} {L : List (Nat × V)} {O : List Obj} {n m : Nat} {H0 : Heap} (ids : List (Option Nat)) (hids : idsB (maskI ids O) = true) (hm : m = n + O.length)
    (hbase : ∀ id, id < n → H0 id = .dead ∨ (H0 id = H id ∧ (H id).low n = true)) (hsep : ∀ i k, ids[i]? = some (some k) → k < n → H0 k = .dead ∨ (objsL O i = .dead)) (h : holdsR τ (renF n ids) L ∧ holdsP H n ids O)
    (hlow : LowC C n) : LeF C ⟨τ, H, n0⟩ ⟨slotsL L, extH H0 n O, m⟩ := by
  rintro a w ⟨γ, I, hS⟩
  obtain ⟨e1, e2, e3⟩ := holdsP_of h.2
  have split : ∀ i k, renF n ids i = some (some k) → (i < n ∧ k = i) ∨ (n ≤ i ∧ ids[i - n]? = some (some k)) := fun i k hi => by
    unfold renF at hi
    split at hi
    · rename_i hlt; cases hi; exact .inl ⟨hlt, rfl⟩
    · exact .inr ⟨by omega, hi⟩
  have hx : ∀ i, n ≤ i → extH H0 n O i = objsL O (i - n) := fun i hi => by unfold extH; rw [if_neg (by omega)]
  refine ⟨_, I, hS.ren (ids := renF n ids) (m0 := n) hlow (fun i hi => renF_lt hi) (fun i j k hi hj li lj => ?_) (slotsR_of h.1) (fun i k hi => ?_) (fun i hi => ?_) fun i hi => ?_⟩ <;> (try dsimp only) <;> (try dsimp only at li lj)
  · rcases split i k hi with ⟨a1, b1⟩ | ⟨a1, b1⟩
    · rcases split j k hj with ⟨a2, b2⟩ | ⟨a2, b2⟩
      · omega
      · exfalso
        rw [hx j a2] at lj
        subst b1
        rcases hsep _ _ b2 a1 with e | e
        · rw [extH_lt a1, e] at li; exact li
        · rw [e] at lj; exact lj
    · rcases split j k hj with ⟨a2, b2⟩ | ⟨a2, b2⟩
      · exfalso
        rw [hx i a1] at li
        subst b2
        rcases hsep _ _ b1 a2 with e | e
        · rw [extH_lt a2, e] at lj; exact lj
        · rw [e] at li; exact li
      · rw [hx i a1] at li
        rw [hx j a2] at lj
        have := idsB_ok hids (i - n) (j - n) k (maskI_get e1 _ k b1 li) (maskI_get e1 _ k b2 lj)
        omega
  · rcases split i k hi with ⟨a1, b1⟩ | ⟨a1, b1⟩
    · subst b1; rw [extH_lt a1]; exact (hbase _ a1).imp id .inl
    · rw [hx i a1]; exact (e2 _ _ b1).imp id .inl
  · unfold renF at hi
    split at hi
    · cases hi
    · rename_i hlt; rw [hx i (by omega)]; exact e3 _ hi
  · unfold renF at hi
    split at hi
    · cases hi
    · rename_i hlt
      rw [hx i (by omega)]
      exact objsL_out (by rw [← e1]; simpa using hi)
def LowT (m : Nat) (τ : Nat → V) : Prop := ∀ t, (τ t).low m = true
theorem LowT.upd {m : Nat} {τ : Nat → V} {d : Nat} {v : V} (h : LowT m τ) (hv : v.low m = true) : LowT m (updT τ d v) := fun t => by
  unfold updT
  split
  · exact hv
  · exact h t
theorem LowT.prune {m : Nat} {τ : Nat → V} {K : List Nat} (h : LowT m τ) : LowT m (Idl.prune K τ) := fun t => by
  unfold Idl.prune
  split
  · exact h t
  · rfl
theorem LowT.nil {m : Nat} : LowT m (slotsL []) := fun t => rfl
theorem LowT.cons {m k : Nat} {v : V} {L : List (Nat × V)} (hv : v.low m = true) (h : LowT m (slotsL L)) : LowT m (slotsL ((k, v) :: L)) := fun t => by
  rw [slotsL_cons]
  split
  · exact hv
  · exact h t
theorem LowT.pnil {m : Nat} : LowT m (pars []) := fun t => rfl
theorem LowT.pcons {m : Nat} {v : V} {L : List V} (hv : v.low m = true) (h : LowT m (pars L)) : LowT m (pars (v :: L)) := fun t => by
  cases t with
  | zero => exact hv
  | succ t => exact h t
end Go.Idl
namespace Go.Idl
set_option linter.all false
open Go.RowKit
variable [Laid]
class KeyC (κ : Type) where
  deq : DecidableEq κ
  ag : Bool
  ks : List CK
  kval : κ → Value
  kdec : Value → Option κ
  kdec_val : ∀ k, kdec (kval k) = some k
  kval_dec : ∀ v k, kdec v = some k → v = kval k
  okk : ∀ k, okKey ag (kval k) = true
  len : ∀ k, (kval k).cells.size = ks.length
  eqk : ∀ a b, eqK ks (kval a).cells.toList (kval b).cells.toList = some (decide (a = b))
instance (priority := low) instKeyDeq (κ : Type) [KeyC κ] : DecidableEq κ := KeyC.deq
theorem ba_beq (a b : ByteArray) : (a == b) = decide (a = b) := by
  rw [Bool.eq_iff_iff]
  cases a with | mk x =>
  cases b with | mk y =>
    have e : ((⟨x⟩ : ByteArray) == ⟨y⟩) = (x == y) := rfl
    rw [e]
    simp
def decKey : List Value → Option KeyD
  | [.string x, .string y, .int .i64 n] => some ⟨x, y, n⟩
  | _ => none
def decKey' : Value → Option KeyD
  | .agg a => decKey a.toList
  | _ => none
instance : KeyC ByteArray where
  deq := inferInstance
  ag := false
  ks := [.s]
  kval := .string
  kdec := fun | .string s => some s | _ => none
  kdec_val := fun _ => rfl
  kval_dec := fun v k h => by
    split at h
    · cases h; rfl
    · cases h
  okk := fun _ => rfl
  len := fun _ => rfl
  eqk := fun a b => by
    show andO (some (a == b)) (some true) = _
    simp only [andO, Bool.and_true, Option.some.injEq, ba_beq]
instance : KeyC KeyD where
  deq := fun a b => if h : a.station = b.station ∧ a.txn = b.txn ∧ a.seq = b.seq then .isTrue (by cases a; cases b; simp at h; simp [h]) else .isFalse fun e => h (by rw [e]; exact ⟨rfl, rfl, rfl⟩)
  ag := true
  ks := [.s, .s, .i .i64]
  kval := fun k => .agg #[.string k.station, .string k.txn, .int .i64 k.seq]
  kdec := decKey'
  kdec_val := fun _ => rfl
  kval_dec := fun v k h => by
    unfold decKey' at h
    split at h
    · rename_i a
      unfold decKey at h
      split at h
      · rename_i x y n hl
        cases h
        rw [← Array.toArray_toList (xs := a), hl]
      · cases h
    · cases h
  okk := fun _ => rfl
  len := fun _ => rfl
  eqk := fun a b => by
    show andO (some (a.station == b.station)) (andO (some (a.txn == b.txn)) (andO (if IntKind.i64 = IntKind.i64 ∧ IntKind.i64 = IntKind.i64 then some (a.seq == b.seq) else none) (some true))) = _
    simp only [andO, Bool.and_true, and_self, if_true, Option.some.injEq, ba_beq]
    rw [Bool.eq_iff_iff]
    simp only [Bool.and_eq_true, beq_iff_eq, decide_eq_true_eq]
    constructor
    · rintro ⟨h1, h2, h3⟩; cases a; cases b; simp at h1 h2 h3; simp [h1, h2, h3]
    · rintro rfl; exact ⟨rfl, rfl, rfl⟩
section
variable {κ α : Type} [KeyC κ]
def keysM (m : List (κ × α)) : List Value := m.map fun p => KeyC.kval p.1
def valsM [Cod α] (m : List (κ × α)) : List V := m.map fun p => Cod.enc p.2
def fidx (m : List (κ × α)) (k : κ) : Option Nat := m.findIdx? fun p => decide (k = p.1)
def lookM (m : List (κ × α)) (k : κ) : Option α := (m.find? fun p => decide (k = p.1)).map (·.2)
def putM (m : List (κ × α)) (k : κ) (a : α) : List (κ × α) := match fidx m k with
  | some i => m.set i (k, a)
  | none => m ++ [(k, a)]
theorem keyFind_typed (m : List (κ × α)) (k : κ) (i : Nat) : keyFind (KeyC.ag κ) (KeyC.ks κ) (KeyC.kval k).cells.toList (keysM m) i = some ((fidx m k).map (· + i)) := by
  induction m generalizing i with
  | nil => rfl
  | cons p m ih =>
    simp only [keysM, List.map_cons, keyFind, KeyC.okk, if_true, KeyC.eqk]
    have ih' := ih (i + 1)
    simp only [keysM] at ih'
    by_cases h : k = p.1
    · simp [h, fidx, List.findIdx?_cons]
    · simp only [h, decide_false, ih', fidx, List.findIdx?_cons, Bool.false_eq_true, if_false]
      cases List.findIdx? (fun p => decide (k = p.1)) m <;> simp; omega
theorem idxI_typed (m : List (κ × α)) (k : κ) : idxI (KeyC.ag κ) (KeyC.ks κ) (KeyC.kval k) (keysM m) = some (fidx m k) := by
  unfold idxI
  rw [if_pos (KeyC.len k), keyFind_typed]
  simp
theorem fidx_some {m : List (κ × α)} {k : κ} {i : Nat} (h : fidx m k = some i) : ∃ a, m[i]? = some (k, a) ∧ lookM m k = some a := by
  unfold fidx at h
  unfold lookM
  have hh := List.findIdx?_eq_some_iff_getElem.1 h
  obtain ⟨hi, h1, h2⟩ := hh
  have e : m[i].1 = k := by simpa using (Eq.symm (by simpa using h1))
  refine ⟨m[i].2, ?_, ?_⟩
  · rw [List.getElem?_eq_getElem hi, ← e]
  · have : m.find? (fun p => decide (k = p.1)) = some m[i] := by
      rw [List.find?_eq_some_iff_getElem]
      exact ⟨h1, i, hi, rfl, fun j hj => by simpa using h2 j hj⟩
    rw [this]; rfl
theorem fidx_none {m : List (κ × α)} {k : κ} (h : fidx m k = none) : lookM m k = none := by
  unfold fidx at h
  unfold lookM
  rw [List.findIdx?_eq_none_iff] at h
  rw [Option.map_eq_none_iff, List.find?_eq_none]
  intro p hp
  simp [h p hp]
def lookT [Cod α] (z : V) (b : Bool) : Option α → Option (V × List (Nat × Obj))
  | some a => some (lookV b (Cod.enc a) true, [])
  | none => some (lookV b z false, [])
@[go_sem ↓] theorem lookT_some [Cod α] (z : V) (b : Bool) (a : α) : lookT z b (some a) = some (lookV b (Cod.enc a) true, []) := nd rfl
@[go_sem ↓] theorem lookT_none [Cod α] (z : V) (b : Bool) : lookT z b (none : Option α) = some (lookV b z false, []) := nd rfl
@[congr] theorem lookT_congr [Cod α] {z : V} {b : Bool} {x x' : Option α} (h : x = x') : lookT z b x = lookT z b x' := by rw [h]
@[go_sem] theorem lookF_typed [Cod α] (z : V) (b : Bool) (m : List (κ × α)) (k : κ) : lookF z b (valsM m) (some (fidx m k)) = lookT z b (lookM m k) := by
  cases h : fidx m k with
  | none => rw [fidx_none h]; rfl
  | some i =>
    obtain ⟨a, h1, h2⟩ := fidx_some h
    rw [h2]
    simp [lookF, valsM, h1, lookT]
theorem putF_typed [Cod α] (id : Nat) (kv : Value) (v : V) (m : List (κ × α)) (k : κ) (a : α) (hk : kv = KeyC.kval k) (hv : v = Cod.enc a) :
    putF' id kv v (keysM m) (valsM m) (some (fidx m k)) = some (.any, [(id, .ext (.map (keysM (putM m k a)) (valsM (putM m k a))))]) := by
  subst hk hv
  unfold putM
  cases h : fidx m k with
  | none => simp [putF', keysM, valsM]
  | some i => simp [putF', keysM, valsM, List.map_set]
theorem find_set {m : List (κ × α)} {k : κ} {a : α} {i : Nat} (h : fidx m k = some i) (k' : κ) : lookM (m.set i (k, a)) k' = if k' = k then some a else lookM m k' := by
  induction m generalizing i with
  | nil => simp [fidx] at h
  | cons p m ih =>
    unfold fidx at h
    rw [List.findIdx?_cons] at h
    by_cases hk : k = p.1
    · simp only [hk, decide_true, if_true, Option.some.injEq] at h
      subst h
      simp only [List.set_cons_zero, lookM, List.find?_cons]
      by_cases e : k' = k
      · simp [e]
      · have : ¬ k' = p.1 := fun e' => e (e'.trans hk.symm)
        simp [e, this]
    · simp only [hk, decide_false, Bool.false_eq_true, if_false, Option.map_eq_some_iff] at h
      obtain ⟨j, hj, rfl⟩ := h
      have := ih (i := j) hj
      simp only [List.set_cons_succ]
      unfold lookM at this ⊢
      rw [List.find?_cons, List.find?_cons]
      by_cases e : k' = p.1
      · have : ¬ k' = k := fun e' => hk (e'.symm.trans e)
        simp [e]
        intro h; exact absurd h.symm hk
      · simp only [e, decide_false]
        exact this
theorem lookM_put (m : List (κ × α)) (k : κ) (a : α) (k' : κ) : lookM (putM m k a) k' = if k' = k then some a else lookM m k' := by
  unfold putM
  cases h : fidx m k with
  | some i => exact find_set h k'
  | none =>
    have hn := fidx_none h
    unfold lookM at hn ⊢
    simp only [List.find?_append, List.find?_cons, List.find?_nil]
    by_cases e : k' = k
    · subst e
      rw [Option.map_eq_none_iff] at hn
      simp [hn]
    · simp only [e, decide_false, if_false, Option.or_none]
structure KM (κ α : Type) where
  o : Option (List (κ × α))
def decKs : List Value → Option (List κ)
  | [] => some []
  | v :: vs => match KeyC.kdec v, decKs vs with
    | some k, some l => some (k :: l)
    | _, _ => none
theorem decKs_val (l : List κ) : decKs (l.map KeyC.kval) = some l := by
  induction l with
  | nil => rfl
  | cons k l ih => simp [decKs, KeyC.kdec_val, ih]
theorem decKs_eq : ∀ {vs : List Value} {l : List κ}, decKs vs = some l → vs = l.map KeyC.kval
  | [], l, h => by cases h; rfl
  | v :: vs, l, h => by
    simp only [decKs] at h
    split at h
    · rename_i k l' h1 h2
      cases h
      rw [KeyC.kval_dec _ _ h1, decKs_eq h2]
      rfl
    · cases h
def decM [Cod α] : V → Option (KM κ α)
  | .sc (.map none) => some ⟨none⟩
  | .mapf ks vs => match (decKs ks : Option (List κ)), (decL Cod.dec vs : Option (List α)) with
    | some a, some b => if a.length = b.length then some ⟨some (a.zip b)⟩ else none
    | _, _ => none
  | _ => none
theorem LeV.mapf {ks : List Value} {vs vs' : List V} (hl : vs.length = vs'.length) (h : ∀ (j : Nat) v v', vs[j]? = some v → vs'[j]? = some v' → LeV v v') : LeV (.mapf ks vs) (.mapf ks vs') := by
  intro I w u hr
  cases hr with
  | mapf _ _ _ r clock ents hI hr hl' hk hh =>
    refine .mapf _ _ _ _ clock ents hI hr (by omega) hk fun j x e hx he => ?_
    have hj : j < vs.length := by rw [hl]; exact (List.getElem?_eq_some_iff.1 hx).1
    exact h j vs[j] x (by simp) hx I w _ (hh j vs[j] e (by simp) he)
instance instKM [Cod α] : Cod (KM κ α) where
  enc := fun m => match m.o with
    | none => .sc (.map none)
    | some l => .mapf (keysM l) (valsM l)
  dec := decM
  sz := 1
  len := fun m => by cases m.o <;> rfl
  dec_enc := fun ⟨m⟩ => by
    cases m with
    | none => rfl
    | some l =>
      have e1 : keysM l = (l.map (·.1)).map KeyC.kval := by simp [keysM, Function.comp_def]
      have e2 : valsM l = (l.map (·.2)).map Cod.enc := by simp [valsM, Function.comp_def]
      show decM (.mapf (keysM l) (valsM l)) = _
      simp only [decM, e1, e2, decKs_val, decL_enc Cod.dec_enc, List.length_map, if_true]
      simp only [← List.unzip_fst, ← List.unzip_snd, List.zip_unzip]
  le := fun v m h => by
    unfold decM at h
    split at h
    · cases h; exact .one rfl rfl (.refl _)
    · rename_i ks vs
      split at h
      · rename_i a b h1 h2
        split at h
        · rename_i hl
          cases h
          refine .one rfl rfl ?_
          have e1 : keysM (a.zip b) = ks := by
            rw [decKs_eq h1]
            simp only [keysM]
            rw [show (fun p : κ × α => KeyC.kval p.1) = KeyC.kval ∘ Prod.fst from rfl, ← List.map_map, List.map_fst_zip (by omega)]
          have e2 : valsM (a.zip b) = b.map Cod.enc := by
            simp only [valsM]
            rw [show (fun p : κ × α => Cod.enc p.2) = Cod.enc ∘ Prod.snd from rfl, ← List.map_map, List.map_snd_zip (by omega)]
          show LeV (.mapf ks vs) (.mapf (keysM (a.zip b)) (valsM (a.zip b)))
          rw [e1, e2]
          obtain ⟨g1, g2⟩ := decL_get h2
          refine .mapf (by simp [g1]) fun j v v' hv hv' => ?_
          simp only [List.getElem?_map, Option.map_eq_some_iff] at hv'
          obtain ⟨x, hx, rfl⟩ := hv'
          exact (Cod.le _ _ (g2 j v x hv hx)).le
        · cases h
      · cases h
    · cases h
@[go_sem ↓] theorem enc_km [Cod α] (m : List (κ × α)) : Cod.enc (⟨some m⟩ : KM κ α) = .mapf (keysM m) (valsM m) := nd rfl
@[go_sem] theorem dec_km [Cod α] (m : List (κ × α)) : (Cod.dec (.mapf (keysM m) (valsM m)) : Option (KM κ α)) = some ⟨some m⟩ := Cod.dec_enc (⟨some m⟩ : KM κ α)
end
@[go_sem] theorem idxI_key {α : Type} (m : List (KeyD × α)) (x y : ByteArray) (n : Int) : idxI true [.s, .s, .i .i64] (.agg #[.string x, .string y, .int .i64 n]) (keysM m) = some (fidx m ⟨x, y, n⟩) := idxI_typed m ⟨x, y, n⟩
@[go_sem] theorem kvOf_key (x y : ByteArray) (n : Int) : kvOf true (.agg [.sc (.string x), .sc (.string y), .sc (.int .i64 n)]) = some (.agg #[.string x, .string y, .int .i64 n]) := nd rfl
end Go.Idl
namespace Go.Idl
set_option linter.all false
open Go.RowKit
variable [Laid]
variable {P : Program} {Φ : Specs} (n : Nat) (τ : Nat → V) (H : Heap)
def mksI (n sz bytes : Nat) (z : V) : V → V → Obj → Option (V × List (Nat × Obj))
  | .sc (.int .i64 l), .sc (.int .i64 c), .unborn => if 0 ≤ l ∧ l ≤ c ∧ c ≤ 4294967296 ∧ bytes * c.toNat ≤ 281474976710656 then some (.own n 0 l.toNat, [(n, .live sz (List.replicate l.toNat z) true)]) else none
  | _, _, _ => none
@[congr] theorem mksI_congr {n sz bytes : Nat} {z l l' c c' : V} {o o' : Obj} (h1 : l = l') (h2 : c = c') (h3 : o = o') : mksI n sz bytes z l c o = mksI n sz bytes z l' c' o' := by rw [h1, h2, h3]
@[go_sem ↓] theorem ev_mks (sz bytes : Nat) (z : V) (l c : A) : evIO P Φ n τ H (.mks sz bytes z l c) = mksI n sz bytes z (l.get τ) (c.get τ) (H n) := by
  simp only [evIO]
  generalize l.get τ = vl
  generalize c.get τ = vc
  generalize H n = ob
  cases ob <;> cases vl with
  | sc u => cases u with
    | int k a => cases k <;> cases vc with
      | sc u' => cases u' with
        | int k' a' => cases k' <;> rfl
        | _ => rfl
      | _ => rfl
    | _ => cases vc <;> rfl
  | _ => cases vc <;> rfl
@[go_sem ↓] theorem mksI_at (sz bytes : Nat) (z : V) (l c : Int) : mksI n sz bytes z (.sc (.int .i64 l)) (.sc (.int .i64 c)) .unborn = if 0 ≤ l ∧ l ≤ c ∧ c ≤ 4294967296 ∧ bytes * c.toNat ≤ 281474976710656 then some (.own n 0 l.toNat, [(n, .live sz (List.replicate l.toNat z) true)]) else none := nd rfl
def elemsO (sz off len : Nat) : Obj → Option (List V)
  | .live s es _ => if s = sz ∧ off + len ≤ es.length then some ((es.drop off).take len) else none
  | _ => none
@[go_sem ↓] theorem news_slice (sz s : Nat) (es : List V) : news H sz (.slice s es) = if s = sz ∨ es = [] then some es else none := nd rfl
@[go_sem ↓] theorem news_own (sz id off len : Nat) : news H sz (.own id off len) = elemsO sz off len (H id) := by
  simp only [news, V.elems]
  generalize H id = ob
  cases ob <;> rfl
@[go_sem ↓] theorem elemsO_live (sz off len s : Nat) (es : List V) (mu : Bool) : elemsO sz off len (.live s es mu) = if s = sz ∧ off + len ≤ es.length then some ((es.drop off).take len) else none := nd rfl
def appO (n sz bytes : Nat) (ys : List V) (id off len : Nat) : Obj → Option (V × List (Nat × Obj))
  | .live s es mu => if s = sz ∧ off + len = es.length ∧ (len + ys.length) * bytes ≤ 68719476736 ∧ len + ys.length ≤ 4294967296 ∧ ys.all (okE sz) = true then some (.own n 0 (len + ys.length), [(id, .dead), (n, .live sz (es.drop off ++ ys) mu)]) else none
  | _ => none
def appI (H : Heap) (n sz bytes : Nat) : Option (List V) → V → Obj → Option (V × List (Nat × Obj))
  | some ys, .own id off len, .unborn => appO n sz bytes ys id off len (H id)
  | some ys, .mt, .unborn => if ys.length * bytes ≤ 68719476736 ∧ ys.length ≤ 4294967296 ∧ ys.all (okE sz) = true then some (.own n 0 ys.length, [(n, .live sz ys true)]) else none
  | some ys, .sc (.slice none 0 0), .unborn => if ys.length * bytes ≤ 68719476736 ∧ ys.length ≤ 4294967296 ∧ ys.all (okE sz) = true then some (.own n 0 ys.length, [(n, .live sz ys true)]) else none
  | _, _, _ => none
@[congr] theorem appI_congr {H : Heap} {n sz bytes : Nat} {ys ys' : Option (List V)} {x x' : V} {o o' : Obj} (h1 : ys = ys') (h2 : x = x') (h3 : o = o') : appI H n sz bytes ys x o = appI H n sz bytes ys' x' o' := by rw [h1, h2, h3]
@[go_sem ↓] theorem ev_app (sz bytes : Nat) (x y : A) : evIO P Φ n τ H (.app sz bytes x y) = appI H n sz bytes (news H sz (y.get τ)) (x.get τ) (H n) := by
  simp only [evIO]
  generalize news H sz (y.get τ) = ys
  generalize x.get τ = vx
  generalize H n = ob
  cases ob <;> cases ys with
  | none => cases vx with
    | sc u => cases u <;> rfl
    | _ => rfl
  | some ys => cases vx with
    | own id off len =>
      first | rfl | (simp only [appI, Option.bind_some]; generalize H id = ob2; cases ob2 <;> rfl)
    | sc u => cases u with
      | slice a b c => cases a <;> cases b <;> cases c <;> rfl
      | _ => rfl
    | _ => rfl
@[go_sem ↓] theorem appI_own (sz bytes : Nat) (ys : List V) (id off len : Nat) : appI H n sz bytes (some ys) (.own id off len) .unborn = appO n sz bytes ys id off len (H id) := nd rfl
@[go_sem ↓] theorem appO_live (sz bytes : Nat) (ys : List V) (id off len s : Nat) (es : List V) (mu : Bool) : appO n sz bytes ys id off len (.live s es mu) = if s = sz ∧ off + len = es.length ∧ (len + ys.length) * bytes ≤ 68719476736 ∧ len + ys.length ≤ 4294967296 ∧ ys.all (okE sz) = true then some (.own n 0 (len + ys.length), [(id, .dead), (n, .live sz (es.drop off ++ ys) mu)]) else none := nd rfl
@[go_sem ↓] theorem appI_nil (sz bytes : Nat) (ys : List V) : appI H n sz bytes (some ys) (.sc (.slice none 0 0)) .unborn = if ys.length * bytes ≤ 68719476736 ∧ ys.length ≤ 4294967296 ∧ ys.all (okE sz) = true then some (.own n 0 ys.length, [(n, .live sz ys true)]) else none := nd rfl
@[go_sem ↓] theorem bound_none (d : Nat) : bound d none = some d := nd rfl
@[go_sem ↓] theorem bound_int (d : Nat) (k : IntKind) (j : Int) : bound d (some (.sc (.int k j))) = if 0 ≤ j then some j.toNat else none := nd rfl
def slI (e : Option (V × List (Nat × Obj))) (H : Heap) (sz : Nat) (lo hi mx : Option V) : V → Option (V × List (Nat × Obj))
  | .sc (.string _) => e
  | v => evSliceI H sz v lo hi mx
@[congr] theorem slI_congr {e : Option (V × List (Nat × Obj))} {H : Heap} {sz : Nat} {lo lo' hi hi' mx mx' : Option V} {x x' : V} (h1 : lo = lo') (h2 : hi = hi') (h3 : mx = mx') (h4 : x = x') : slI e H sz lo hi mx x = slI e H sz lo' hi' mx' x' := by rw [h1, h2, h3, h4]
@[go_sem ↓] theorem ev_sl (sz : Nat) (x : A) (lo hi mx : Option A) (o : Oper) : evIO P Φ n τ H (.sl sz x lo hi mx o) = slI (evPure P (opd τ) o) H sz (lo.map (A.get τ)) (hi.map (A.get τ)) (mx.map (A.get τ)) (x.get τ) := by
  simp only [evIO]
  generalize x.get τ = vx
  cases vx with
  | sc u => cases u <;> rfl
  | _ => rfl
def sl0 (sz s : Nat) (es : List V) : Option Nat → Option Nat → Option (V × List (Nat × Obj))
  | some l, some r => if l ≤ r ∧ r ≤ es.length ∧ s = sz then some (.slice sz ((es.take r).drop l), []) else none
  | _, _ => none
@[go_sem ↓] theorem slI_slice (e : Option (V × List (Nat × Obj))) (sz s : Nat) (es : List V) (lo hi : Option V) : slI e H sz lo hi none (.slice s es) = sl0 sz s es (bound 0 lo) (bound es.length hi) := by
  simp only [slI, evSliceI, V.len, Option.bind_some]
  cases bound 0 lo with
  | none => rfl
  | some l => cases bound es.length hi with
    | none => rfl
    | some r =>
      simp only [Option.bind_some, sl0, bound, Nat.le_refl, true_and]
      by_cases h1 : l ≤ r ∧ r ≤ es.length
      · by_cases h2 : s = sz <;> simp [h1, h2]
      · rw [if_neg h1, if_neg (fun h => h1 ⟨h.1, h.2.1⟩)]
@[go_sem ↓] theorem sl0_some (sz s : Nat) (es : List V) (l r : Nat) : sl0 sz s es (some l) (some r) = if l ≤ r ∧ r ≤ es.length ∧ s = sz then some (.slice sz ((es.take r).drop l), []) else none := nd rfl
@[congr] theorem sl0_congr {sz s : Nat} {es : List V} {l l' r r' : Option Nat} (h1 : l = l') (h2 : r = r') : sl0 sz s es l r = sl0 sz s es l' r' := by rw [h1, h2]
def slO4 (H : Heap) (sz id off len l r : Nat) : Obj → Option (V × List (Nat × Obj))
  | .live s es _ => if s = sz ∧ off + len ≤ es.length ∧ es.all V.isF = true then some (.slice sz ((es.drop (off + l)).take (r - l)), froze H [id]) else none
  | _ => none
@[go_sem ↓] theorem slO4_live (sz id off len l r s : Nat) (es : List V) (mu : Bool) : slO4 H sz id off len l r (.live s es mu) = if s = sz ∧ off + len ≤ es.length ∧ es.all V.isF = true then some (.slice sz ((es.drop (off + l)).take (r - l)), froze H [id]) else none := nd rfl
def slO3 (H : Heap) (sz id off len : Nat) (ob : Obj) : Option Nat → Option Nat → Option Nat → Option (V × List (Nat × Obj))
  | some l, some r, some m => if l ≤ r ∧ r ≤ m ∧ m ≤ len then (if l = m then some (.mt, []) else slO4 H sz id off len l r ob) else none
  | _, _, _ => none
@[congr] theorem slO3_congr {H : Heap} {sz id off len : Nat} {l l' r r' m m' : Option Nat} {o : Obj} (h1 : l = l') (h2 : r = r') (h3 : m = m') : slO3 H sz id off len o l r m = slO3 H sz id off len o l' r' m' := by rw [h1, h2, h3]
@[go_sem ↓] theorem slO3_some (sz id off len l r m : Nat) (ob : Obj) : slO3 H sz id off len ob (some l) (some r) (some m) = if l ≤ r ∧ r ≤ m ∧ m ≤ len then (if l = m then some (.mt, []) else slO4 H sz id off len l r ob) else none := nd rfl
@[go_sem ↓] theorem slI_own3 (e : Option (V × List (Nat × Obj))) (sz id off len : Nat) (lo : Option V) (hi mx : V) : slI e H sz lo (some hi) (some mx) (.own id off len) = slO3 H sz id off len (H id) (bound 0 lo) (bound len (some hi)) (bound 0 (some mx)) := by
  simp only [slI, evSliceI, V.len, Option.bind_some]
  have hb : ∀ d, bound d (some mx) = bound 0 (some mx) := fun d => by
    cases mx with
    | sc u => cases u <;> rfl
    | _ => rfl
  cases bound 0 lo with
  | none => rfl
  | some l => cases bound len (some hi) with
    | none => rfl
    | some r =>
      simp only [Option.bind_some, hb]
      cases bound 0 (some mx) with
      | none => rfl
      | some m =>
        simp only [Option.bind_some, slO3, Option.isNone_some, Bool.false_eq_true, if_false, V.isSl, if_true]
        split
        · split
          · rfl
          · generalize hob : H id = ob
            cases ob <;> rfl
        · rfl
end Go.Idl
namespace Go.Idl
set_option linter.all false
open Go.RowKit
variable [Laid]
variable {P : Program} {Φ : Specs} (n : Nat) (τ : Nat → V) (H : Heap)
def mmI (f : Int → Int → Int) (e : Option (V × List (Nat × Obj))) (x y : V) : Option (V × List (Nat × Obj)) :=
  match x, y with
  | .sc (.int k a), .sc (.int _ b) => some (.sc (.int k (f a b)), [])
  | _, _ => e
@[congr] theorem mmI_congr {f : Int → Int → Int} {e : Option (V × List (Nat × Obj))} {x x' y y' : V} (h1 : x = x') (h2 : y = y') : mmI f e x y = mmI f e x' y' := by rw [h1, h2]
@[go_sem ↓] theorem mmI_int (f : Int → Int → Int) (e : Option (V × List (Nat × Obj))) (k k' : IntKind) (a b : Int) : mmI f e (.sc (.int k a)) (.sc (.int k' b)) = some (.sc (.int k (f a b)), []) := nd rfl
theorem max_at {ρ : Operand → V} {x y : Operand} {ts : Array TypeId} {ty : Nat} {k k' : IntKind} {a b : Int} (hx : ρ x = .sc (.int k a)) (hy : ρ y = .sc (.int k' b)) :
    evPure P ρ (pu (.call ⟨.builtin .max, #[x, y], ts⟩) ty) = some (.sc (.int k (max a b)), []) := by
  refine evPure_of (v := .int k (max a b)) ?_ (by simp [pu]) ?_
  · simp [pu, Op.operands, Call.operands, hx, hy, V.conc]
  · have : (if b > a then b else a) = max a b := by split <;> omega
    simp [pu, execOp, resolve, hx, hy, V.conc, runPure_bind, runPure_pure, invoke, builtin, Builtin.max_, Builtin.max2, this]
theorem max_mm {x y : Operand} {ts : Array TypeId} {ty : Nat} : evIO P Φ n τ H (.pur (pu (.call ⟨.builtin .max, #[x, y], ts⟩) ty)) = mmI max (evStuck P Φ n τ H (.pur (pu (.call ⟨.builtin .max, #[x, y], ts⟩) ty))) (opd τ x) (opd τ y) := by
  unfold mmI
  split
  · rename_i h1 h2; exact max_at h1 h2
  · rfl
@[go_sem ↓] theorem ev_max_tt (a b ty : Nat) (ts : Array TypeId) : evIO P Φ n τ H (.pur (pu (.call ⟨.builtin .max, #[.tmp a, .tmp b], ts⟩) ty)) = mmI max (evStuck P Φ n τ H (.pur (pu (.call ⟨.builtin .max, #[.tmp a, .tmp b], ts⟩) ty))) (τ a) (τ b) := max_mm n τ H
end Go.Idl
namespace Go.Idl
set_option linter.all false
open Go.RowKit
variable [Laid]
def strOf (ns : List Int) : ByteArray := ns.foldl (fun r n => r.push (UInt8.ofNat n.toNat)) ByteArray.empty
def bytV : List V → Option (List Int)
  | [] => some []
  | .sc (.int .u8 n) :: vs => (bytV vs).map (n :: ·)
  | _ => none
variable {P : Program} {C : Ctx}
def nckI (e : Option (V × List (Nat × Obj))) : V → Option (V × List (Nat × Obj))
  | .ref id idx off => some (.ref id idx off, [])
  | .elem x off => some (.elem x off, [])
  | _ => e
@[congr] theorem nckI_congr {e : Option (V × List (Nat × Obj))} {x x' : V} (h : x = x') : nckI e x = nckI e x' := by rw [h]
@[go_sem ↓] theorem ev_nck {Φ : Specs} (n : Nat) (τ : Nat → V) (H : Heap) (x : A) (o : Oper) : evIO P Φ n τ H (.nck x o) = nckI (evStuck P Φ n τ H (.nck x o)) (x.get τ) := by
  unfold evStuck
  simp only [evIO]
  generalize x.get τ = v
  cases v <;> rfl
@[go_sem ↓] theorem nckI_ref (e : Option (V × List (Nat × Obj))) (id idx off : Nat) : nckI e (.ref id idx off) = some (.ref id idx off, []) := nd rfl
end Go.Idl
namespace Go.Idl
set_option linter.all false
open Go.RowKit
variable [Laid]
variable {P : Program} {Φ : Specs} {C : Ctx} {γ : Places} {I : Imm} {τ : Nat → V} {H : Heap} {tm : Array Value} {w : World} {N : Nat}
section
variable {K : List Nat} {bef : List Nat} {n0 : Nat} {Q : SF → Prop} {rest : List IOp} {i : Nat} {acc : List Rec} {n : Nat}
@[go_sem ↓] theorem stepU_callv (d : Nat) (x : A) (xs : List A) (nd : List Nat) : stepU P Φ C bef n0 Q rest i acc (some d) (.callv x xs) τ H n nd none = (fullI bef i ∧ apartI bef acc ∧ inlV P C (xs.map (A.get τ)) ⟨τ, H, n0 + i⟩ (fun v s' => seqI P Φ C Q rest ⟨updT τ d v, s'.H, s'.n⟩) (x.get τ)) := Idl.nd rfl
end
abbrev rawO (o : Go.Obj) : Obj := .ext (.raw o)
theorem rep_ref {id idx off : Nat} {u : Value} (h : Rep I w γ (.ref id idx off) u) : ∃ p, γ id = some p ∧ u = .pointer (some ⟨p.blk, p.off + idx * p.sz + off, none⟩) := by
  cases h with
  | ref _ _ _ _ p hp => exact ⟨p, hp, rfl⟩
theorem Sim.rawAt (hS : Sim C γ I τ H tm w) {id : Nat} {o : Go.Obj} (hH : H id = rawO o) {b : Nat} (hr : Rep I w γ (.ref id 0 0) (.pointer (some ⟨b, 0, none⟩))) :
    w.heap[b]? = some o ∧ ∃ p, γ id = some p ∧ p.blk = b := by
  obtain ⟨p, h1, h2, o', h3, h4⟩ := hS.ext id _ hH
  obtain ⟨p', hp, hu⟩ := rep_ref hr
  rw [h1] at hp
  cases hp
  have hb : p.blk = b := by
    have := hu
    simp only [Value.pointer.injEq, Option.some.injEq, Addr.mk.injEq] at this
    exact this.1.symm
  have h4' : o' = o := h4
  subst h4' hb
  exact ⟨h3, p, h1, rfl⟩
theorem Sim.setRaw (hS : Sim C γ I τ H tm w) {id : Nat} {o : Go.Obj} (hH : H id = rawO o) (hc : ∀ c t k, o ≠ .cells c t k) {b : Nat} (hr : Rep I w γ (.ref id 0 0) (.pointer (some ⟨b, 0, none⟩))) (o' : Go.Obj) :
    Sim C γ I τ (updH H id (rawO o')) tm (w.putObj b o') := by
  obtain ⟨h1, p, h2, h3⟩ := hS.rawAt hH hr
  obtain ⟨p', g1, g2, o2, g3, g4⟩ := hS.ext id _ hH
  rw [h2] at g1
  cases g1
  subst h3
  refine hS.setExt (x' := .raw o') hH ⟨h2, g2, o2, g3, g4⟩ (fun c t m e => ?_) fun _ _ => rfl
  rw [h1] at e
  exact hc _ _ _ (Option.some.inj e)
theorem Sim.bornRaw (hS : Sim C γ I τ H tm w) {nid : Nat} (hn : H nid = .unborn) (o : Go.Obj) :
    Sim C (updP γ nid ⟨w.heap.size, 0, 0⟩) I τ (updH H nid (rawO o)) tm (w.alloc o) :=
  hS.bornExt hn (x := .raw o) fun _ _ _ _ => rfl
structure Bk (P : Program) (C : Ctx) (N : Nat) (s : SF) (ps : List Nat) (x y : IC) where
  C1 : Ctx
  l : Nat
  fn : FuncId
  tm : Array Value
  pa : Array Nat
  cx : Code
  cy : Code
  D : Nat
  i0 : C1.I0 = C.I0
  w0 : C1.w0 = C.w0
  rnd : C1.rnd = none
  size : tm.size = N
  hps : pa.toList = ps
  ps_lt : ∀ p, p ∈ ps → p < N
  okx : okCode N cx = true
  oky : okCode N cy = true
  hx : cCode P cx = some x
  hy : cCode P cy = some y
  fr : (s.τ, tm) ∈ C1.keep
  bk : ∃ fr, fr ∈ C1.keep ∧ fr.1 0 = .ref (s.n + 1) 0 0 ∧ fr.2.getD 0 undef = .pointer (some ⟨l, 0, none⟩)
  md : ∃ fr, fr ∈ C1.keep ∧ fr.1 1 = .ref s.n 0 0 ∧ fr.2.getD 1 undef = .pointer (some ⟨D, 0, none⟩)
  low : ∀ m, s.n + 2 ≤ m → (∀ t, (s.τ t).low m = true) → LowC C m → LowC C1 m
def Bk.rcd {P : Program} {C : Ctx} {N : Nat} {s : SF} {ps : List Nat} {x y : IC} (B : Bk P C N s ps x y) (st : LoopState) (pe : Option Code) : Obj :=
  rawO (.loop { state := st, pending := pe, fn := B.fn, tmps := B.tm, params := B.pa, assign := B.cx, body := B.cy, defers := B.D })
def Bk.idle : Obj := rawO (.deferred (some []))
def Bk.gone : Obj := rawO (.deferred none)
def setL (τ : Nat → V) : List Nat → List V → Nat → V
  | p :: ps, v :: vs => setL (updT τ p v) ps vs
  | _, _ => τ
@[go_sem ↓] theorem setL_cons (τ : Nat → V) (p : Nat) (ps : List Nat) (v : V) (vs : List V) : setL τ (p :: ps) (v :: vs) = setL (updT τ p v) ps vs := nd rfl
@[go_sem ↓] theorem setL_nil (τ : Nat → V) (vs : List V) : setL τ [] vs = τ := nd rfl
theorem Sim.setL {C : Ctx} {γ : Places} {I : Imm} {H : Heap} {w : World} : ∀ (ps : List Nat) (vs : List V) (us : List Value) (τ : Nat → V) (tm : Array Value), Sim C γ I τ H tm w → ps.length = us.length → vs.length = us.length → (∀ p, p ∈ ps → p < tm.size) →
    (∀ (j : Nat) (x : V) (u : Value), vs[j]? = some x → us[j]? = some u → Rep I w γ x u) →
    Sim C γ I (Idl.setL τ ps vs) H ((ps.zip us).foldl (fun t (p, v) => t.setIfInBounds p v) tm) w
  | [], vs, us, τ, tm, hS, h1, h2, _, _ => by
    cases vs <;> simpa [Idl.setL] using hS
  | p :: ps, [], us, τ, tm, hS, h1, h2, _, _ => by simp at h1 h2; omega
  | p :: ps, v :: vs, [], τ, tm, hS, h1, h2, _, _ => by simp at h1
  | p :: ps, v :: vs, u :: us, τ, tm, hS, h1, h2, h3, h4 => by
    simp only [List.zip_cons_cons, List.foldl_cons, Idl.setL]
    refine Sim.setL ps vs us _ _ (hS.put (h4 0 v u rfl rfl) (h3 p (by simp))) (by simpa using h1) (by simpa using h2) (fun q hq => by simpa using h3 q (List.mem_cons_of_mem _ hq)) fun j x u hx hu => h4 (j + 1) x u (by simpa using hx) (by simpa using hu)
theorem Sim.frames {C' : Ctx} (hS : Sim C γ I τ H tm w) (h0 : C'.I0 = C.I0) (h1 : C'.w0 = C.w0) {τ' : Nat → V} {tm' : Array Value} (ht : ∀ t, Rep I w γ (τ' t) (tm'.getD t undef))
    (hk : ∀ fr, fr ∈ C'.keep → ∀ t, Rep I w γ (fr.1 t) (fr.2.getD t undef)) : Sim C' γ I τ' H tm' w where
  below := by rw [h1]; exact hS.below
  imm0 := by rw [h0]; exact hS.imm0
  immB := by rw [h0, h1]; exact hS.immB
  immS := hS.immS
  tmp := ht
  kept := hk
  dom := by rw [h1]; exact hS.dom
  obj := hS.obj
  ext := hS.ext
  inj := hS.inj
section
variable {s : SF} {ps : List Nat} {x y : IC}
def Bk.fin (B : Bk P C N s ps x y) (K0 : V → SF → Prop) : Exit → SF → Prop
  | .normal, s' => s'.H (s.n + 1) = B.rcd .busy none ∧ K0 (.sc (.bool true)) ⟨s'.τ, updH s'.H (s.n + 1) (B.rcd .ready none), s'.n⟩
  | .ret, s' => s'.H (s.n + 1) = B.rcd .busy none ∧ K0 (.sc (.bool false)) ⟨s'.τ, updH s'.H (s.n + 1) (B.rcd .done (some .ret)), s'.n⟩
  | .exit id, s' => s'.H (s.n + 1) = B.rcd .busy none ∧ K0 (.sc (.bool false)) ⟨s'.τ, updH s'.H (s.n + 1) (B.rcd .done (some (.exit id))), s'.n⟩
  | _, _ => False
@[go_sem ↓] theorem fin_normal (B : Bk P C N s ps x y) (K0 : V → SF → Prop) (τ : Nat → V) (H : Heap) (n : Nat) : B.fin K0 .normal ⟨τ, H, n⟩ = (H (s.n + 1) = B.rcd .busy none ∧ K0 (.sc (.bool true)) ⟨τ, updH H (s.n + 1) (B.rcd .ready none), n⟩) := nd rfl
@[go_sem ↓] theorem fin_ret (B : Bk P C N s ps x y) (K0 : V → SF → Prop) (τ : Nat → V) (H : Heap) (n : Nat) : B.fin K0 .ret ⟨τ, H, n⟩ = (H (s.n + 1) = B.rcd .busy none ∧ K0 (.sc (.bool false)) ⟨τ, updH H (s.n + 1) (B.rcd .done (some .ret)), n⟩) := nd rfl
def Bk.mid (B : Bk P C N s ps x y) (Φ : Specs) (C2 : Ctx) (K : List Nat) (K0 : V → SF → Prop) : Exit → SF → Prop
  | .normal, s1 => s1.H (s.n + 1) = B.rcd .ready none ∧ walkI P Φ C2 N K y ⟨s1.τ, updH s1.H (s.n + 1) (B.rcd .busy none), s1.n⟩ (contI P Φ C2 N K (B.fin K0) [])
  | _, _ => False
@[go_sem ↓] theorem mid_normal (B : Bk P C N s ps x y) (C2 : Ctx) (K : List Nat) (K0 : V → SF → Prop) (τ : Nat → V) (H : Heap) (n : Nat) : B.mid Φ C2 K K0 .normal ⟨τ, H, n⟩ = (H (s.n + 1) = B.rcd .ready none ∧ walkI P Φ C2 N K y ⟨τ, updH H (s.n + 1) (B.rcd .busy none), n⟩ (contI P Φ C2 N K (B.fin K0) [])) := nd rfl
theorem YieldT.round (hg : Good P Φ) (K : List Nat) (B : Bk P C N s ps x y) {C' : Ctx} (h0 : C'.I0 = C.I0) (h1 : C'.w0 = C.w0) (hk : ∀ fr, fr ∈ B.C1.keep → fr ∈ C'.keep) {vs : List V} {s0 : SF} {K0 : V → SF → Prop} (hn : vs.length = ps.length)
    (hH : s0.H (s.n + 1) = B.rcd .ready none)
    (h : ∀ C2 : Ctx, (∀ m, (∀ t, (s0.τ t).low m = true) → LowC C' m → LowC C2 m) →
      walkI P Φ C2 N K x ⟨setL s.τ ps vs, s0.H, s0.n⟩ (contI P Φ C2 N K (B.mid Φ C2 K K0) [])) : YieldT P C' B.l vs s0 K0 := by
  intro tmi w γ I args hS hlen hrep
  obtain ⟨fb, hfb, hb1, hb2⟩ := B.bk
  have hrl : Rep I w γ (.ref (s.n + 1) 0 0) (.pointer (some ⟨B.l, 0, none⟩)) := by
    have := hS.kept fb (hk fb hfb) 0
    rwa [hb1, hb2] at this
  have hl := (hS.rawAt hH hrl).1
  have hpl : args.size = B.pa.size := by
    have : B.pa.toList.length = ps.length := by rw [B.hps]
    simp at this
    omega
  have hy := run_yield (P := P) (args := args) hl hpl
  refine ⟨_, _, _, _, hy, roundIn_of_wpIn (rf_fn _) ?_⟩
  dsimp only
  let C2 : Ctx := ⟨C'.I0, C'.w0, (s0.τ, tmi) :: C'.keep, C'.laid, some B.l⟩
  have hlow : ∀ m, (∀ t, (s0.τ t).low m = true) → LowC C' m → LowC C2 m := fun m k1 k2 fr hf t => by
    rcases List.mem_cons.1 hf with e | e
    · subst e; exact k1 t
    · exact k2 fr e t
  have hS2 : Sim C2 γ I (setL s.τ ps vs) s0.H ((ps.zip args.toList).foldl (fun t (p, v) => t.setIfInBounds p v) B.tm) w := by
    refine Sim.setL ps vs args.toList s.τ B.tm (hS.frames (C' := C2) rfl rfl (fun t => hS.kept (s.τ, B.tm) (hk _ B.fr) t) fun fr hf t => ?_) (by simp; omega) (by simpa using hlen) (fun p hp => by rw [B.size]; exact B.ps_lt p hp) (fun j x u hx hu => hrep j x u hx (by simpa using hu))
    rcases List.mem_cons.1 hf with e | e
    · subst e; exact hS.tmp t
    · exact hS.kept fr e t
  have hfold : ∀ (l : List (Nat × Value)) (t0 : Array Value), (l.foldl (fun t (p, v) => t.setIfInBounds p v) t0).size = t0.size := by
    intro l
    induction l with
    | nil => intro t0; rfl
    | cons p l ih => intro t0; rw [List.foldl_cons, ih]; simp
  have etm : (B.pa.zip args).foldl (fun tmps (x : Nat × Value) => tmps.setIfInBounds x.1 x.2) B.tm = (ps.zip args.toList).foldl (fun t (p, v) => t.setIfInBounds p v) B.tm := by
    rw [← Array.foldl_toList, Array.toList_zip, B.hps]
  have hk' : ∀ (w' : World) (γ' : Places) (I' : Imm) (τ' : Nat → V) (H' : Heap) (tm' : Array Value), Sim C2 γ' I' τ' H' tm' w' → Rep I' w' γ' (.ref (s.n + 1) 0 0) (.pointer (some ⟨B.l, 0, none⟩)) := fun w' γ' I' τ' H' tm' hS' => by
    have := hS'.kept fb (List.mem_cons_of_mem _ (hk fb hfb)) 0
    rwa [hb1, hb2] at this
  have hw := walkI_sound (n := N) hg B.cx x _ _ B.hx (h C2 hlow) B.okx [] { tmps := (B.pa.zip args).foldl (fun tmps (x : Nat × Value) => tmps.setIfInBounds x.1 x.2) B.tm, defers := [] } w (by rw [etm]; dsimp only; rw [hfold]; exact B.size) rfl ⟨γ, I, by rw [etm]; exact hS2⟩
  refine wpIn_mono hw ?_
  rintro e a1 w1 ⟨q1, q2, s1, q3, γ1, I1, q4⟩
  rw [contI_nil] at q3
  cases e with
  | normal =>
    obtain ⟨r1, r2⟩ := q3
    have r3 := hk' _ _ _ _ _ _ q4
    obtain ⟨r4, _⟩ := q4.rawAt r1 r3
    refine ⟨_, run_beginRound r4 rfl, ?_⟩
    have r5 := q4.setRaw r1 (by simp) r3 (.loop { state := .busy, pending := none, fn := B.fn, tmps := B.tm, params := B.pa, assign := B.cx, body := B.cy, defers := B.D })
    refine wpIn_mono (walkI_sound (n := N) hg B.cy y _ _ B.hy r2 B.oky [] a1 _ q1 q2 ⟨γ1, I1, r5⟩) ?_
    rintro e a3 w3 ⟨p1, p2, s3, p3, γ3, I3, p4⟩
    rw [contI_nil] at p3
    have p5 := hk' _ _ _ _ _ _ p4
    have back : ∀ {H3 : Heap} {w4 : World}, Sim C2 γ3 I3 s3.τ H3 a3.tmps w4 → Sim C' γ3 I3 s0.τ H3 tmi w4 := fun hh =>
      hh.frames (C := C2) (C' := C') rfl rfl (fun t => hh.kept (s0.τ, tmi) (List.mem_cons_self ..) t) fun fr hf t => hh.kept fr (List.mem_cons_of_mem _ hf) t
    have go : ∀ (jump : Option Code), s3.H (s.n + 1) = B.rcd .busy none → K0 (.sc (.bool jump.isNone)) ⟨s3.τ, updH s3.H (s.n + 1) (B.rcd (if jump.isNone then .ready else .done) jump), s3.n⟩ →
        ∃ v w', (Instr.endRound B.l jump).run P w3 = .ok v w' ∧ ∃ u v' s', (Ending.returned v) = .returned u ∧ K0 v' s' ∧ ∃ γ' I', Sim C' γ' I' s0.τ s'.H tmi w' ∧ Rep I' w' γ' v' u := fun jump g1 g2 => by
      obtain ⟨g3, _⟩ := p4.rawAt g1 p5
      have g4 := p4.setRaw g1 (by simp) p5 (.loop { state := (if jump.isNone then .ready else .done), pending := jump, fn := B.fn, tmps := B.tm, params := B.pa, assign := B.cx, body := B.cy, defers := B.D })
      exact ⟨_, _, run_endRound jump g3, _, _, _, rfl, g2, γ3, I3, back g4, .sc _ _⟩
    cases e with
    | normal => exact go none p3.1 p3.2
    | ret => exact go (some .ret) p3.1 p3.2
    | exit id => exact go (some (.exit id)) p3.1 p3.2
    | goto t => exact p3.elim
    | panic c => exact p3.elim
    | outgrown => exact p3.elim
  | exit => exact q3.elim
  | goto => exact q3.elim
  | ret => exact q3.elim
  | panic => exact q3.elim
  | outgrown => exact q3.elim
def MarkAt (C : Ctx) (ds : List Deferred) : Option Nat → Prop
  | none => ds = []
  | some id => ∃ D, ds = [{ target := .collected D, args := #[] }] ∧ ∃ fr, fr ∈ C.keep ∧ fr.1 1 = .ref id 0 0 ∧ fr.2.getD 1 undef = .pointer (some ⟨D, 0, none⟩)
def TopI (P : Program) (N : Nat) (ic : IC) (C : Ctx) (mk : Option Nat) (s : SF) (Q : Exit → Ctx → Option Nat → SF → Prop) : Prop :=
  ∀ c, cCode P c = some ic → okCode N c = true → C.rnd = none → ∀ a w, a.tmps.size = N → MarkAt C a.defers mk → SimF C s a w →
    c.wpIn (rf none) 0 P (fun e a' w' => ∃ C' mk' s', Q e C' mk' s' ∧ C'.I0 = C.I0 ∧ C'.w0 = C.w0 ∧ C'.rnd = none ∧ a'.tmps.size = N ∧ MarkAt C' a'.defers mk' ∧ SimF C' s' a' w') a w
theorem TopI.mono {ic : IC} {mk : Option Nat} {s : SF} {Q Q' : Exit → Ctx → Option Nat → SF → Prop} (h : TopI P N ic C mk s Q) (hq : ∀ e C mk s, Q e C mk s → Q' e C mk s) : TopI P N ic C mk s Q' :=
  fun c hc hok hr a w h1 h2 h3 => wpIn_mono (h c hc hok hr a w h1 h2 h3) fun _ _ _ ⟨C', mk', s', k1, k2⟩ => ⟨C', mk', s', hq _ _ _ _ k1, k2⟩
theorem TopI.tri (hg : Good P Φ) (K : List Nat) {ic : IC} {mk : Option Nat} {s : SF} {Q : Exit → Ctx → Option Nat → SF → Prop} (h : walkI P Φ C N K ic s (contI P Φ C N K (fun e s' => Q e C mk s') [])) : TopI P N ic C mk s Q := by
  intro c hc hok hr a w h1 h2 h3
  have := walkI_sound (n := N) hg c ic _ _ hc h hok a.defers a w h1 rfl h3
  rw [hr] at this
  refine wpIn_mono this ?_
  rintro e a' w' ⟨k1, k2, s', k3, k4⟩
  rw [contI_nil] at k3
  exact ⟨C, mk, s', k3, rfl, rfl, hr, k1, by rw [k2]; exact h2, k4⟩
theorem TopI.weaken {ic : IC} {mk : Option Nat} {s s' : SF} {Q : Exit → Ctx → Option Nat → SF → Prop} (hl : LeF C s s') (h : TopI P N ic C mk s' Q) : TopI P N ic C mk s Q :=
  fun c hc hok hr a w h1 h2 h3 => h c hc hok hr a w h1 h2 (hl a w h3)
def thenT (K : Ctx → Option Nat → SF → Prop) (Q : Exit → Ctx → Option Nat → SF → Prop) : Exit → Ctx → Option Nat → SF → Prop
  | .normal, C, mk, s => K C mk s
  | e, C, mk, s => Q e C mk s
theorem TopI.seq {a b : IC} {mk : Option Nat} {s : SF} {Q : Exit → Ctx → Option Nat → SF → Prop} (h : TopI P N a C mk s (thenT (fun C' mk' s' => TopI P N b C' mk' s' Q) Q)) : TopI P N (.seq a b) C mk s Q := by
  intro c hc hok hr a w h1 h2 h3
  cases c <;> simp only [cCode] at hc
  case seq x y =>
    split at hc
    · rename_i x' y' hx hy
      cases hc
      simp only [okCode, Bool.and_eq_true] at hok
      refine wpIn_seq (wpIn_mono (h x hx hok.1 hr a w h1 h2 h3) ?_)
      rintro e a' w' ⟨C', mk', s', k1, k2, k3, k4, k5, k6, k7⟩
      cases e with
      | normal =>
        refine wpIn_mono (k1 y hy hok.2 k4 a' w' k5 k6 k7) ?_
        rintro e a2 w2 ⟨C2, mk2, s2, g1, g2, g3, g4⟩
        exact ⟨C2, mk2, s2, g1, g2.trans k2, g3.trans k3, g4⟩
      | _ => exact ⟨C', mk', s', k1, k2, k3, k4, k5, k6, k7⟩
    · cases hc
  all_goals first
    | cases hc
    | (split at hc <;> cases hc)
    | (simp only [Option.map_eq_some_iff] at hc; obtain ⟨l, hl, he⟩ := hc; split at he <;> cases he)
    | (simp only [Option.map_eq_some_iff] at hc; obtain ⟨l, hl, he⟩ := hc; split at he <;> (try split at he) <;> cases he)
    | (simp only [Option.map_eq_some_iff] at hc; obtain ⟨l, hl, he⟩ := hc; cases he)
def inBlkT (id : Nat) (Q : Exit → Ctx → Option Nat → SF → Prop) : Exit → Ctx → Option Nat → SF → Prop
  | .exit id', C, mk, s => if id' = id then Q .normal C mk s else Q (.exit id') C mk s
  | e, C, mk, s => Q e C mk s
theorem TopI.block {id : Nat} {b : IC} {mk : Option Nat} {s : SF} {Q : Exit → Ctx → Option Nat → SF → Prop} (h : TopI P N b C mk s (inBlkT id Q)) : TopI P N (.block id b) C mk s Q := by
  intro c hc hok hr a w h1 h2 h3
  cases c <;> simp only [cCode] at hc
  case block id' x =>
    simp only [Option.map_eq_some_iff] at hc
    obtain ⟨x', hx, he⟩ := hc
    cases he
    simp only [okCode] at hok
    refine wpIn_block (wpIn_mono (h x hx hok hr a w h1 h2 h3) ?_)
    rintro e a' w' ⟨C', mk', s', k1, k2⟩
    cases e with
    | exit id' =>
      simp only [Exit.inBlock, inBlkT] at k1 ⊢
      split
      · rename_i e; rw [if_pos e] at k1; exact ⟨C', mk', s', k1, k2⟩
      · rename_i e; rw [if_neg e] at k1; exact ⟨C', mk', s', k1, k2⟩
    | _ => exact ⟨C', mk', s', k1, k2⟩
  all_goals first
    | cases hc
    | (split at hc <;> cases hc)
    | (simp only [Option.map_eq_some_iff] at hc; obtain ⟨l, hl, he⟩ := hc; split at he <;> cases he)
    | (simp only [Option.map_eq_some_iff] at hc; obtain ⟨l, hl, he⟩ := hc; split at he <;> (try split at he) <;> cases he)
    | (simp only [Option.map_eq_some_iff] at hc; obtain ⟨l, hl, he⟩ := hc; cases he)
def jumpT (Q : Exit → Ctx → Option Nat → SF → Prop) : Option Code → Ctx → Option Nat → SF → Prop
  | none => Q .normal
  | some .ret => Q .ret
  | some (.exit id) => Q (.exit id)
  | _ => fun _ _ _ => False
def Bk.done (B : Bk P C N s ps x y) (Q : Exit → Ctx → Option Nat → SF → Prop) (st : LoopState) (pe : Option Code) (H : Heap) (n : Nat) : Prop :=
  st ≠ .busy ∧ H (s.n + 1) = B.rcd st pe ∧ jumpT Q pe B.C1 (some s.n) ⟨s.τ, updH H (s.n + 1) (B.rcd .exhausted pe), n⟩
end
theorem TopI.rfn {g : A} {ps : List Nat} {x y : IC} {s : SF} {Q : Exit → Ctx → Option Nat → SF → Prop} {f : FuncId} {xs ys : List V} (hgv : fnOf (g.get s.τ) = some (f, xs, ys)) (hu : s.H s.n = .unborn ∧ s.H (s.n + 1) = .unborn)
    (h : ∀ B : Bk P C N s ps x y, CallT P B.C1 f (xs ++ [.sc (.func (.yield B.l) #[] #[])] ++ ys) ⟨s.τ, updH (updH s.H s.n Bk.idle) (s.n + 1) (B.rcd .ready none), s.n + 2⟩
      fun _ s' => ∃ st pe, B.done Q st pe s'.H s'.n) : TopI P N (.rfn g ps x y) C none s Q := by
  intro c hc hok hr a w h1 h2 h3
  cases c <;> simp only [cCode] at hc
  case rangeFunc g' pa cx cy =>
    split at hc
    · rename_i x' y' hx hy
      simp only [Option.some.injEq, IC.rfn.injEq] at hc
      obtain ⟨rfl, rfl, rfl, rfl⟩ := hc
      simp only [okCode, Bool.and_eq_true, List.all_eq_true, decide_eq_true_eq] at hok
      obtain ⟨γ, I, hS⟩ := h3
      simp only [MarkAt] at h2
      rw [A.get_of] at hgv
      refine wpIn_rangeFunc fun fn _ => ?_
      -- two blocks are laid
      have s1 := hS.bornRaw hu.1 (.deferred (some []))
      have hu2 : updH s.H s.n (rawO (.deferred (some []))) (s.n + 1) = .unborn := by rw [updH_ne (by omega)]; exact hu.2
      have s2 := s1.bornRaw hu2 (.loop { state := .ready, pending := none, fn, tmps := a.tmps, params := pa, assign := cx, body := cy, defers := w.heap.size })
      have hsz : (w.alloc (.deferred (some []))).heap.size = w.heap.size + 1 := by
        show (w.heap.push _).size = _
        simp
      rw [hsz] at s2
      generalize hγ2 : updP (updP γ s.n ⟨w.heap.size, 0, 0⟩) (s.n + 1) ⟨w.heap.size + 1, 0, 0⟩ = γ2 at s2
      have g1 : γ2 (s.n + 1) = some ⟨w.heap.size + 1, 0, 0⟩ := by rw [← hγ2]; simp [updP]
      have g2 : γ2 s.n = some ⟨w.heap.size, 0, 0⟩ := by rw [← hγ2]; simp [updP]
      generalize hw2 : (w.alloc (.deferred (some []))).alloc (.loop { state := .ready, pending := none, fn, tmps := a.tmps, params := pa, assign := cx, body := cy, defers := w.heap.size }) = w2 at s2
      have rl : Rep I w2 γ2 (.ref (s.n + 1) 0 0) (.pointer (some ⟨w.heap.size + 1, 0, none⟩)) := by
        have := Rep.ref (I := I) (w := w2) γ2 (s.n + 1) 0 0 _ g1
        simpa using this
      have rd : Rep I w2 γ2 (.ref s.n 0 0) (.pointer (some ⟨w.heap.size, 0, none⟩)) := by
        have := Rep.ref (I := I) (w := w2) γ2 s.n 0 0 _ g2
        simpa using this
      let book : (Nat → V) × Array Value := (fun t => if t = 0 then .ref (s.n + 1) 0 0 else if t = 1 then .ref s.n 0 0 else .any, #[.pointer (some ⟨w.heap.size + 1, 0, none⟩), .pointer (some ⟨w.heap.size, 0, none⟩)])
      let C1 : Ctx := ⟨C.I0, C.w0, book :: (s.τ, a.tmps) :: C.keep, C.laid, none⟩
      have s3 : Sim C1 γ2 I s.τ (updH (updH s.H s.n Bk.idle) (s.n + 1) (rawO (.loop { state := .ready, pending := none, fn, tmps := a.tmps, params := pa, assign := cx, body := cy, defers := w.heap.size }))) a.tmps w2 := by
        refine s2.frames (C' := C1) rfl rfl s2.tmp fun fr hf t => ?_
        rcases List.mem_cons.1 hf with e | e
        · subst e
          dsimp only [book]
          match t with
          | 0 => exact rl
          | 1 => exact rd
          | t + 2 => exact .any _ _
        · rcases List.mem_cons.1 e with e | e
          · subst e; exact s2.tmp t
          · exact s2.kept fr e t
      -- the function value
      have hx1 : Rep I w2 γ2 (opd s.τ g') (a.eval g') := s3.opd a.defers g'
      have key : ∃ us vs : Array Value, a.eval g' = .func (.func f) us vs ∧ xs.length = us.size ∧ ys.length = vs.size ∧ (∀ (j : Nat) (x : V) (u : Value), xs[j]? = some x → us[j]? = some u → Rep I w2 γ2 x u) ∧ (∀ (j : Nat) (x : V) (u : Value), ys[j]? = some x → vs[j]? = some u → Rep I w2 γ2 x u) := by
        generalize a.eval g' = ux at hx1 ⊢
        unfold fnOf at hgv
        split at hgv
        · rename_i f' us vs hv
          rw [hv] at hx1
          split at hgv
          · rename_i hz
            cases hgv
            have hu : us = #[] := Array.eq_empty_of_size_eq_zero hz.1
            have hv' : vs = #[] := Array.eq_empty_of_size_eq_zero hz.2
            subst hu hv'
            exact ⟨#[], #[], hx1.sc_eq, rfl, rfl, by simp, by simp⟩
          · cases hgv
        · rename_i f' xs' ys' hv
          rw [hv] at hx1
          cases hgv
          cases hx1 with
          | fn _ _ _ _ us vs e1 e2 e3 e4 => exact ⟨us, vs, rfl, e1, e2, e3, e4⟩
        · cases hgv
      obtain ⟨us, vs, hev, l1, l2, r1, r2⟩ := key
      let B : Bk P C N s pa.toList x' y' := {
        C1 := C1, l := w.heap.size + 1, fn := fn, tm := a.tmps, pa := pa, cx := cx, cy := cy, D := w.heap.size
        i0 := rfl, w0 := rfl, rnd := rfl, size := h1, hps := rfl, ps_lt := hok.1, okx := hok.2.1, oky := hok.2.2, hx := hx, hy := hy
        fr := List.mem_cons_of_mem _ (List.mem_cons_self ..)
        bk := ⟨book, List.mem_cons_self .., rfl, rfl⟩
        md := ⟨book, List.mem_cons_self .., rfl, rfl⟩
        low := fun m hm k1 k2 fr hf t => by
          rcases List.mem_cons.1 hf with e | e
          · subst e
            dsimp only [book]
            split
            · simp [V.low, V.lowC, V.lowA]; omega
            · split
              · simp [V.low, V.lowC, V.lowA]; omega
              · rfl
          · rcases List.mem_cons.1 e with e | e
            · subst e; exact k1 t
            · exact k2 fr e t }
      obtain ⟨hent, hcall⟩ := h B
      refine ⟨w.heap.size + 1, [{ target := .collected w.heap.size, args := #[] }], w2, { target := .fn (.func f) vs, args := us ++ #[.func (.yield (w.heap.size + 1)) #[] #[]] }, w2, f,
        us ++ #[.func (.yield (w.heap.size + 1)) #[] #[]] ++ vs, w2, ?_, ?_, fun f' _ => rf_fn f', ?_, rf_depth, ?_⟩
      · rw [← hw2]; exact run_enterLoop_outer _ _ _ _ _
      · simp only [resolve, hev]
        simp [Deferred.ofValue, Act.eval]
      · simp [invoke, enters_run hent]
      · refine (callsIn_wide (n := 0 - 1)).2 (Calls.mono (hcall a.tmps w2 γ2 I _ s3 ?_ ?_) ?_)
        · simp; omega
        · intro j z u hz hu'
          rw [← Array.getElem?_toList] at hu'
          simp only [Array.toList_append] at hu'
          have hl1 : xs.length = us.toList.length := by simpa using l1
          by_cases c1 : j < xs.length
          · rw [List.append_assoc, List.getElem?_append_left c1] at hz
            rw [List.append_assoc, List.getElem?_append_left (by omega)] at hu'
            exact r1 j z u hz (by simpa using hu')
          · rw [List.append_assoc, List.getElem?_append_right (by omega)] at hz hu'
            rw [← hl1] at hu'
            cases hj : j - xs.length with
            | zero =>
              rw [hj] at hz hu'
              simp at hz hu'
              subst hz hu'
              exact .sc _ _
            | succ k =>
              rw [hj] at hz hu'
              exact r2 k z u (by simpa using hz) (by simpa using hu')
        · rintro e w' ⟨u, v, s', rfl, ⟨st, pe, d1, d2, d3⟩, γ', I', d4, d5⟩
          have rl' : Rep I' w' γ' (.ref (s.n + 1) 0 0) (.pointer (some ⟨w.heap.size + 1, 0, none⟩)) := d4.kept book (List.mem_cons_self ..) 0
          obtain ⟨e1, _⟩ := d4.rawAt d2 rl'
          have e2 := d4.setRaw d2 (by simp) rl' (.loop { state := .exhausted, pending := pe, fn, tmps := a.tmps, params := pa, assign := cx, body := cy, defers := w.heap.size })
          refine ⟨pe, _, run_endLoop e1 d1, ?_⟩
          have fin : ∀ e, Q e B.C1 (some s.n) ⟨s.τ, updH s'.H (s.n + 1) (B.rcd .exhausted pe), s'.n⟩ →
              ∃ C' mk' s2, Q e C' mk' s2 ∧ C'.I0 = C.I0 ∧ C'.w0 = C.w0 ∧ C'.rnd = none ∧ a.tmps.size = N ∧ MarkAt C' ([{ target := .collected w.heap.size, args := #[] }] ++ a.defers) mk' ∧
                SimF C' s2 { a with defers := [{ target := .collected w.heap.size, args := #[] }] ++ a.defers } (w'.putObj (w.heap.size + 1) (.loop { state := .exhausted, pending := pe, fn, tmps := a.tmps, params := pa, assign := cx, body := cy, defers := w.heap.size })) := fun e hq =>
            ⟨_, _, _, hq, rfl, rfl, rfl, h1, ⟨w.heap.size, by rw [h2]; rfl, book, List.mem_cons_self .., rfl, rfl⟩, γ', I', e2⟩
          cases pe with
          | none => exact fin .normal d3
          | some c =>
            cases c with
            | ret => exact wpIn_ret (fin .ret d3)
            | exit id => exact wpIn_exit (fin (.exit id) d3)
            | _ => exact d3.elim
    · cases hc
  all_goals first
    | cases hc
    | (split at hc <;> cases hc)
    | (simp only [Option.map_eq_some_iff] at hc; obtain ⟨l, hl, he⟩ := hc; split at he <;> cases he)
    | (simp only [Option.map_eq_some_iff] at hc; obtain ⟨l, hl, he⟩ := hc; split at he <;> (try split at he) <;> cases he)
    | (simp only [Option.map_eq_some_iff] at hc; obtain ⟨l, hl, he⟩ := hc; cases he)
def endM {β : Type} [CodR β] (P : Program) (rs : List ResultVar) (r : β) : Option Nat → SF → Prop
  | none, s => endT r (resF P rs s)
  | some id, s => s.H id = Bk.idle ∧ endT r (resF P rs ⟨s.τ, updH s.H id Bk.gone, s.n⟩)
@[go_sem ↓] theorem endM_none {β : Type} [CodR β] (rs : List ResultVar) (r : β) (s : SF) : endM P rs r none s = endT r (resF P rs s) := nd rfl
@[go_sem ↓] theorem endM_some {β : Type} [CodR β] (rs : List ResultVar) (r : β) (id : Nat) (τ : Nat → V) (H : Heap) (n : Nat) : endM P rs r (some id) ⟨τ, H, n⟩ = (H id = Bk.idle ∧ endT r (resF P rs ⟨τ, updH H id Bk.gone, n⟩)) := nd rfl
def endsM {β : Type} [CodR β] (P : Program) (rs : List ResultVar) (r : β) : Exit → Ctx → Option Nat → SF → Prop
  | .normal, _, mk, s => endM P rs r mk s
  | .ret, _, mk, s => endM P rs r mk s
  | _, _, _, _ => False
@[go_sem ↓] theorem endsM_ret {β : Type} [CodR β] (rs : List ResultVar) (r : β) (C : Ctx) (mk : Option Nat) (s : SF) : endsM P rs r .ret C mk s = endM P rs r mk s := nd rfl
@[go_sem ↓] theorem thenT_normal (K : Ctx → Option Nat → SF → Prop) (Q : Exit → Ctx → Option Nat → SF → Prop) (C : Ctx) (mk : Option Nat) (s : SF) : thenT K Q .normal C mk s = K C mk s := nd rfl
@[go_sem ↓] theorem thenT_ret (K : Ctx → Option Nat → SF → Prop) (Q : Exit → Ctx → Option Nat → SF → Prop) (C : Ctx) (mk : Option Nat) (s : SF) : thenT K Q .ret C mk s = Q .ret C mk s := nd rfl
@[go_sem ↓] theorem inBlkT_normal (id : Nat) (Q : Exit → Ctx → Option Nat → SF → Prop) (C : Ctx) (mk : Option Nat) (s : SF) : inBlkT id Q .normal C mk s = Q .normal C mk s := nd rfl
@[go_sem ↓] theorem inBlkT_ret (id : Nat) (Q : Exit → Ctx → Option Nat → SF → Prop) (C : Ctx) (mk : Option Nat) (s : SF) : inBlkT id Q .ret C mk s = Q .ret C mk s := nd rfl
@[go_sem ↓] theorem jumpT_none (Q : Exit → Ctx → Option Nat → SF → Prop) : jumpT Q none = Q .normal := nd rfl
@[go_sem ↓] theorem jumpT_ret (Q : Exit → Ctx → Option Nat → SF → Prop) : jumpT Q (some .ret) = Q .ret := nd rfl
theorem conM (hg : Good P Φ) {f : FuncId} {nt : Nat} {rs : List ResultVar} {ic : IC} (hf : factsI P f = some (nt, rs, ic)) {σ β : Type} [CodA σ] [CodR β] {g : σ → Option β} (hn : CodA.ar σ ≤ nt)
    (h : ∀ (C : Top) t r, g t = some r → TopI P nt ic C.ctx none ⟨pars (CodA.encA t), fun _ => .unborn, 0⟩ (endsM P rs r)) : Contract P f (FT g) := by
  unfold factsI at hf
  split at hf
  · split at hf
    · rename_i fn hfn
      split at hf
      · rename_i c hc
        split at hf
        · rename_i hok
          simp only [Option.map_eq_some_iff, Prod.mk.injEq] at hf
          obtain ⟨ic', hic, rfl, rfl, rfl⟩ := hf
          intro I w args xs r hlen hrep hI hL hF
          cases hd : (CodA.decA xs : Option σ) with
          | none => simp [FT, FTb, hd] at hF
          | some t =>
            cases hgt : g t with
            | none => simp [FT, FTb, hd, FTc, hgt] at hF
            | some b =>
              simp only [FT, FTb, hd, FTc, hgt, Option.some.injEq] at hF
              subst hF
              have hle := CodA.leA _ _ hd
              have hlen' : (CodA.encA t).length = args.size := by rw [← hle.1, hlen]
              have hrep' : ∀ (j : Nat) (x : V) (u : Value), (CodA.encA t)[j]? = some x → args[j]? = some u → Rep I w noPlaces x u := fun j x u hx hu => by
                have hj : j < xs.length := by rw [hle.1]; exact (List.getElem?_eq_some_iff.1 hx).1
                exact hle.2 j xs[j] x (by simp) hx I w u (hrep j xs[j] u (by simp) hu)
              refine callsIn_wide (n := 0) |>.1 (callsIn_of_wp_marks hfn hc trivial ?_)
              have hsz : args.size ≤ fn.ntmps := by rw [← hlen', CodA.arA]; exact hn
              refine wpIn_mono (h ⟨I, w, hL⟩ t b hgt c hic hok rfl { tmps := args ++ Array.replicate (fn.ntmps - args.size) undef, defers := [] } w (by simp; omega) rfl (start_simF (C := Top.ctx ⟨I, w, hL⟩) hlen' hrep' hI rfl)) ?_
              rintro e a' w' ⟨C', mk', s', hres, c1, c2, _, _, hmk, γ', I', hS⟩
              have hq : (e = .normal ∨ e = .ret) ∧ endM P fn.results.toList b mk' s' := by
                cases e with
                | normal => exact ⟨.inl rfl, hres⟩
                | ret => exact ⟨.inr rfl, hres⟩
                | _ => exact hres.elim
              obtain ⟨he, hq⟩ := hq
              have last : ∀ {H' : Heap} {w2 : World}, Sim C' γ' I' s'.τ H' a'.tmps w2 → endT b (resF P fn.results.toList ⟨s'.τ, H', s'.n⟩) →
                  LeavesInM Fence.wide 0 P fn a'.tmps (fun e w' => ∃ u, e = .returned u ∧ Bel w.heap.size w w' ∧ Rep (fun g x => I g x ∨ (w.heap.size ≤ g ∧ g < w'.heap.size)) w' noPlaces (CodR.encR b) u) [] .returning w2 := by
                intro H' w2 hS2 hres
                cases hv : resF P fn.results.toList ⟨s'.τ, H', s'.n⟩ with
                | none => rw [hv] at hres; exact hres.elim
                | some v =>
                  rw [hv] at hres
                  obtain ⟨u, I2, hrun, hr, hI2⟩ := resG_run (fn := fn) (s := ⟨s'.τ, H', s'.n⟩) hS2 hv
                  rw [c1, c2] at hI2
                  have hbel : Bel w.heap.size w w2 := by have := hS2.below; rw [c2] at this; exact this
                  exact ⟨u, hrun, u, rfl, hbel, CodR.leR _ _ hres _ _ _ (hr.mono (Pres.refl _ _) hI2 fun _ _ h => h)⟩
              have fin : LeavesInM Fence.wide 0 P fn a'.tmps (fun e w' => ∃ u, e = .returned u ∧ Bel w.heap.size w w' ∧ Rep (fun g x => I g x ∨ (w.heap.size ≤ g ∧ g < w'.heap.size)) w' noPlaces (CodR.encR b) u) a'.defers .returning w' := by
                cases mk' with
                | none => rw [show a'.defers = [] from hmk]; exact last hS hq
                | some id =>
                  obtain ⟨D, hD, fr, hfr, m1, m2⟩ := hmk
                  obtain ⟨q1, q2⟩ := hq
                  have hrd : Rep I' w' γ' (.ref id 0 0) (.pointer (some ⟨D, 0, none⟩)) := by
                    have := hS.kept fr hfr 1
                    rwa [m1, m2] at this
                  obtain ⟨g1, _⟩ := hS.rawAt q1 hrd
                  rw [hD]
                  exact ⟨by simp, .inl ⟨D, _, rfl, run_takeDeferred g1, last (hS.setRaw q1 (by simp) hrd (.deferred none)) q2⟩⟩
              rcases he with rfl | rfl
              · exact fin
              · exact fin
        · cases hf
      · cases hf
    · cases hf
  · cases hf
end Go.Idl
namespace Go.Idl
set_option linter.all false
open Go.RowKit
variable [Laid]
section
variable {P : Program} {C : Ctx}
end
end Go.Idl
namespace Go.Idl
set_option linter.all false
open Go.RowKit
variable [Laid]
theorem run_eqlNil {P : Program} (w : World) (t e : TypeId) (a : Option Addr) (n c : Nat) (h : P.underlying t = some (.slice e)) : (binOp .eql t (.slice a n c) (.slice none 0 0)).run P w = .ok (.bool a.isNone) w := by
  have h1 : ∀ d, (Op.equalIn (d + 1) t (.slice a n c) (.slice none 0 0)).run P w = .ok a.isNone w := fun d => by
    cases a <;> simp [Op.equalIn, run_underlying h]
  have h2 : (Op.equal t (.slice a n c) (.slice none 0 0)).run P w = .ok a.isNone w := h1 9999
  simp only [binOp]
  simp [h2]
theorem opT_nil {P : Program} {C : Ctx} {t e t' : TypeId} {ty : Nat} (ht : P.underlying t = some (.slice e)) {τ : Nat → V} {H : Heap} {n k sz : Nat} {es : List V} {K : V → SF → Prop} (hx : τ k = .slice sz es)
    (hk : ∀ b, (b = true → es = []) → K (.sc (.bool b)) ⟨τ, H, n⟩) : OpT P C (pu (.binOp .eql t (.tmp k) (.const (.slice none 0 0)) t') ty) ⟨τ, H, n⟩ K := by
  intro tm ds w γ I hS
  left
  have hr : Rep I w γ (.slice sz es) ((⟨tm, ds⟩ : Act).eval (.tmp k)) := by
    have := hS.opd ds (.tmp k)
    simp only [opd] at this
    rw [hx] at this
    exact this
  generalize hu : (⟨tm, ds⟩ : Act).eval (.tmp k) = u at hr
  have hrun : ∀ (a : Option Addr) (l c : Nat), u = .slice a l c → (execOp (Act.eval ⟨tm, ds⟩) (pu (.binOp .eql t (.tmp k) (.const (.slice none 0 0)) t') ty)).run P w = .ok (.value (.bool a.isNone)) w := by
    intro a l c e
    subst e
    have hb := run_eqlNil (P := P) w t _ a l c ht
    have hev : Act.eval ⟨tm, ds⟩ (.const (.slice none 0 0)) = .slice none 0 0 := rfl
    simp only [pu, execOp, hu, hev, eqGuard, Sem.run_bind, hb, Sem.run_pure, Result.andThen_ok, Bool.not_true, Bool.false_eq_true, ↓reduceIte]
  cases hr with
  | nilslice _ _ A cap => exact ⟨_, w, .sc (.bool A.isNone), ⟨τ, H, n⟩, γ, I, hrun A 0 cap rfl, hk _ fun _ => rfl, hS, .sc _ _⟩
  | slice _ _ _ g o cap f hcap hsz hc h => exact ⟨_, w, .sc (.bool false), ⟨τ, H, n⟩, γ, I, hrun _ _ _ rfl, hk _ (fun h => by cases h), hS, .sc _ _⟩
theorem bin_noneF {P : Program} {ρ : Operand → V} {t t' : TypeId} {ty k sz : Nat} {es : List V} (hx : ρ (.tmp k) = .slice sz es) :
    evBin P ρ (pu (.binOp .eql t (.tmp k) (.const (.slice none 0 0)) t') ty) .eql false (.slice sz es) (.sc (.slice none 0 0)) = none := by
  simp only [evBin, fastBin, evPure]
  rw [if_neg]
  simp [pu, Op.operands, hx, V.conc]
theorem stepI_nil {P : Program} {C : Ctx} {Φ : Specs} {Q : SF → Prop} {rest : List IOp} {d : Nat} {t e t' : TypeId} {ty : Nat} (ht : P.underlying t = some (.slice e)) {τ : Nat → V} {H : Heap} {n k sz : Nat} {es : List V} {x y : A}
    (hx : τ k = .slice sz es) (h : ∀ b, (b = true → es = []) → seqI P Φ C Q rest ⟨updT τ d (.sc (.bool b)), H, n⟩) :
    stepI P Φ C Q rest (some d) (some (.bin .eql false x y (pu (.binOp .eql t (.tmp k) (.const (.slice none 0 0)) t') ty))) τ H n (evBin P (opd τ) (pu (.binOp .eql t (.tmp k) (.const (.slice none 0 0)) t') ty) .eql false (.slice sz es) (.sc (.slice none 0 0))) := by
  rw [bin_noneF (by exact hx)]
  exact opT_nil (P := P) (C := C) (K := fun v s' => seqI P Φ C Q rest ⟨updT τ d v, s'.H, s'.n⟩) ht hx h
theorem bytesRow_get (s : ByteArray) (cap j : Nat) (hj : j < s.size) : (bytesRow s cap)[j]? = (s.data[j]?).map fun b => Value.int .u8 b.toNat := by
  have h1 : j < (s.data.map (fun b => Value.int .u8 b.toNat)).size := by simpa using hj
  rw [bytesRow, Array.getElem?_append_left h1, Array.getElem?_map]
theorem bytesRow_size (s : ByteArray) (cap : Nat) (h : s.size ≤ cap) : (bytesRow s cap).size = cap := by
  have : s.data.size = s.size := rfl
  simp [bytesRow]
  omega
theorem conv_noneS {P : Program} {Φ : Specs} {t t' : TypeId} {e : TypeId} {ty : Nat} {τ : Nat → V} {H : Heap} {n k : Nat} {s : ByteArray} (hs : P.underlying t = some .string) (hb : P.underlying t' = some (.slice e)) (he : P.underlying e = some (.int .u8)) (hx : τ k = .sc (.string s)) :
    evStuck P Φ n τ H (.pur (pu (.convert t t' (.tmp k)) ty)) = none := by
  have hv : ((opd τ (.tmp k)).conc).getD undef = .string s := by simp [opd, hx, V.conc]
  have hc : runPure P (choose (.appendCap s.size 0 e)) = none := rfl
  have key : runPure P (execOp (fun x => ((opd τ x).conc).getD undef) (pu (.convert t t' (.tmp k)) ty)) = none := by
    simp only [pu, execOp]
    rw [hv]
    simp only [convert, runPure_bind, runPure_underlying hs, runPure_underlying hb, runPure_underlying he, Option.bind_some, Conv.stringToBytes, hc, Option.bind_none]
  simp only [evStuck, evIO, evPure]
  split
  · show (match runPure P (execOp (fun x => ((opd τ x).conc).getD undef) (pu (.convert t t' (.tmp k)) ty)) with
      | some (.value v) => some (V.ofV v, [])
      | _ => none) = none
    rw [key]
  · rfl
theorem inv_sound {P : Program} {C : Ctx} {n : Nat} {r : Option Nat} {Φ : Specs} (hΦ : Met P Φ) (hm : P.follows .mixedOrders = true) {ops : Array Oper} {id : Nat} {ds : List Deferred} {J : (Nat → Bool) → SF → Prop} {Q : Exit → Act → World → Prop} {s : SF} {a : Act} {w : World}
    (hok : ops.toList.all (dstOk n) = true) (hdr : drawOk ops = true) (hn : a.tmps.size = n) (hds : a.defers = ds) (hS : SimF C s a w) (h0 : J (fun _ => false) s)
    (hstep : ∀ (S : Nat → Bool) (s : SF) (j : Nat) (o : Oper), ops[j]? = some o → S j = false → (∀ k, ((befs ops.toList []).getD j 0).testBit k = true → S k = true) → J S s → wpSeq P Φ C ops (J fun k => if k = j then true else S k) [o] s)
    (hend : ∀ (S : Nat → Bool) (s : SF), (∀ k, k < ops.size → S k = true) → J S s → ∀ a' w', a'.tmps.size = n → a'.defers = ds → SimF C s a' w' → Q .normal a' w') : (Code.region id ops true).wpIn (rf r) 0 P Q a w := by
  have hback : ∀ j oj, ops[j]? = some oj → ∀ e, e ∈ oj.after → Region.binds .any e = true → e.on < j := by
    intro j oj hj e he hb
    simp only [drawOk, List.all_eq_true, List.mem_range, Bool.and_eq_true] at hdr
    have := (hdr j (Array.getElem?_eq_some_iff.1 hj).1).1
    rw [Array.getD_eq_getD_getElem?, hj, Option.getD_some, Array.all_eq_true_iff_forall_mem] at this
    have := this e he
    simpa [hb] using this
  let S : Array Bool → Nat → Bool := fun listed k => listed.getD k false
  let Inv : Array Bool → Act → World → Prop := fun listed a w => a.tmps.size = n ∧ a.defers = ds ∧ Down ops (S listed) ∧ ∃ s, J (S listed) s ∧ SimF C s a w
  have hS0 : S (Array.replicate ops.size false) = fun _ => false := by
    funext k
    simp only [S, Array.getD_eq_getD_getElem?, Array.getElem?_replicate]
    split <;> rfl
  refine wpIn_region_any hm (wpAny_inv Inv ?_ ?_ ?_ ops.size _ a _ ?_ (by simp) (unl_new _ _ (Nat.le_refl _)))
  · rintro listed a' w' ⟨h1, h2, _, s', h4, h5⟩ hsz hall
    refine hend _ s' (fun k hk => ?_) h4 a' w' h1 h2 h5
    have := hall k hk
    simp only [S]
    rw [Array.getD_eq_getD_getElem?] at this ⊢
    cases hh : listed[k]? with
    | none => rw [Array.getElem?_eq_none_iff] at hh; omega
    | some b => rw [hh] at this; simpa using this
  · rintro listed a' w' _ hsz hr
    intro k
    induction k using Nat.strongRecOn with
    | _ k ih =>
      intro hk
      cases hh : listed.getD k true with
      | true => rfl
      | false =>
        exfalso
        have hmem : k ∈ Region.ready .any ops listed := by
          rw [mem_ready]
          refine ⟨hh, ops[k], by simp [hk], fun e he hb => ?_⟩
          have hlt := hback k ops[k] (by simp [hk]) e he hb
          have := ih e.on hlt (by omega)
          rw [Array.getD_eq_getD_getElem?] at this ⊢
          cases hh2 : listed[e.on]? with
          | none => rw [Array.getElem?_eq_none_iff] at hh2; omega
          | some b => rw [hh2] at this; simpa using this
        rw [hr] at hmem
        cases hmem
  · rintro listed a' w' i ⟨h1, h2, hdown, s', h4, h5⟩ hsz hi
    obtain ⟨h0, oi, hoi, hpre⟩ := mem_ready.1 hi
    have hilt : i < ops.size := (Array.getElem?_eq_some_iff.1 hoi).1
    have hsi : S listed i = false := by
      simp only [S]
      rw [Array.getD_eq_getD_getElem?] at h0 ⊢
      cases hh : listed[i]? with
      | none => simp
      | some b => rw [hh] at h0; simpa using h0
    have hpre' : ∀ o, ops[i]? = some o → ∀ e, e ∈ o.after → Region.binds .any e = true → S listed e.on = true := fun o ho e he hb => by
      rw [hoi] at ho
      cases ho
      exact hpre e he hb
    have hbefI : ∀ k, ((befs ops.toList []).getD i 0).testBit k = true → S listed k = true := fun k hk =>
      befs_down hdown ops.toList [] (by simp) (by simp) i k hk hpre'
    have hdown' : Down ops (S (listed.setIfInBounds i true)) := by
      intro k ok hk hsk e he hb
      have keep : ∀ q, S listed q = true → S (listed.setIfInBounds i true) q = true := fun q hq => getD_set_true hq
      by_cases e' : k = i
      · subst e'
        exact keep _ (hpre' ok hk e he hb)
      · refine keep _ (hdown k ok hk ?_ e he hb)
        simp only [S] at hsk ⊢
        rw [getD_set_ne false (fun h => e' h.symm)] at hsk
        exact hsk
    have hset : S (listed.setIfInBounds i true) = fun k => if k = i then true else S listed k := by
      funext k
      simp only [S]
      by_cases e : k = i
      · subst e; simp [hsz, hilt]
      · rw [if_neg e, getD_set_ne false (fun h => e h.symm)]
    have hdi : dstOk n oi = true := by
      rw [List.all_eq_true] at hok
      exact hok oi (by simpa using Array.mem_of_getElem? hoi)
    exact wpSeq_step (n := n) (ds := ds) hΦ hoi hdi h1 h2 h5 (hstep _ s' i oi hoi hsi hbefI h4) fun a2 w2 s2 k1 k2 k3 k4 => ⟨k1, k2, hdown', s2, by rw [hset]; exact k3, k4⟩
  · refine ⟨hn, hds, ?_, s, ?_, ?_⟩
    rotate_left
    · rw [hS0]; exact h0
    · obtain ⟨γ, I, hS⟩ := hS
      exact ⟨γ, I, hS.drawn _⟩
    · intro i o _ hi
      rw [hS0] at hi
      cases hi
theorem cOps_get {P : Program} {ops : Array Oper} : ∀ (l : List Oper) (il : List IOp), cOps P ops l = some il → ∀ (j : Nat) (o : Oper), l[j]? = some o → ∃ io, il[j]? = some io ∧ cOps P ops [o] = some [io]
  | [], il, _, j, o, h => by simp at h
  | x :: l, il, hc, j, o, h => by
    simp only [cOps] at hc
    split at hc
    · rename_i y ys h1 h2
      cases hc
      cases j with
      | zero =>
        simp only [List.getElem?_cons_zero, Option.some.injEq] at h
        subst h
        exact ⟨y, rfl, by simp [cOps, h1]⟩
      | succ j => exact cOps_get l ys h2 j o h
    · cases hc
theorem cOps_len {P : Program} {ops : Array Oper} : ∀ (l : List Oper) (il : List IOp), cOps P ops l = some il → il.length = l.length
  | [], il, h => by simp [cOps] at h; subst h; rfl
  | x :: l, il, hc => by
    simp only [cOps] at hc
    split at hc
    · rename_i y ys h1 h2
      cases hc
      rw [List.length_cons, List.length_cons, cOps_len l ys h2]
    · cases hc
theorem TriI.orders {P : Program} {Φ : Specs} {C : Ctx} {n : Nat} (hg : Good P Φ) (K : List Nat) {bef : List Nat} {ops : List IOp} {s : SF} {Q : Exit → SF → Prop} (J : (Nat → Bool) → SF → Prop) (h0 : J (fun _ => false) s)
    (hstep : ∀ (S : Nat → Bool) (s : SF) (j : Nat) (o : IOp), ops[j]? = some o → S j = false → (∀ k, (bef.getD j 0).testBit k = true → S k = true) → J S s → seqI P Φ C (J fun k => if k = j then true else S k) [o] s)
    (hend : ∀ (S : Nat → Bool) (s : SF), (∀ k, k < ops.length → S k = true) → J S s → Q .normal ⟨prune K s.τ, s.H, s.n⟩) : TriI P C n (.any bef ops) s Q := by
  intro c hc
  cases c <;> simp only [cCode] at hc
  case region id l d =>
    simp only [Option.map_eq_some_iff] at hc
    obtain ⟨l', hl, he⟩ := hc
    cases d with
    | true =>
      simp only [if_true] at he
      split at he
      · cases he
        intro hok ds a w hn hd hS
        simp only [okCode, Bool.and_eq_true, Bool.or_eq_true, Bool.not_eq_true'] at hok
        have hdr : drawOk l = true := hok.2.resolve_left (by simp)
        have hlen := cOps_len _ _ hl
        refine inv_sound hg.met hg.orders hok.1 hdr hn hd hS (J := J) h0 (fun S s j o ho hj hb hJ => ?_) (fun S s hall hJ a' w' h1 h2 h3 => ⟨h1, h2, _, hend S s (fun k hk => hall k (by rw [hlen] at hk; simpa using hk)) hJ, LeF.prune K s a' w' h3⟩)
        obtain ⟨io, hio, hc1⟩ := cOps_get _ _ hl j o (by simpa using ho)
        exact seqI_sound _ _ _ hc1 (hstep S s j io hio hj hb hJ)
      · cases he
    | false => simp at he
  all_goals first
    | cases hc
    | (split at hc <;> cases hc)
    | (simp only [Option.map_eq_some_iff] at hc; obtain ⟨l, hl, he⟩ := hc; cases he)
end Go.Idl
namespace Go.Idl
set_option linter.all false
open Go.RowKit
def recC (nt : Nat) : Code → Option TypeId
  | .seq (.region _ r1 false) (.seq (.region _ r2 false) (.cond (.tmp t5) _ .skip)) => match r1.toList, r2.toList with
    | [⟨some d1, .call ⟨.builtin .recover, x1, _⟩, _, _, _, none⟩, ⟨some d2, .assign (.tmp e1), _, _, _, none⟩], [⟨some d3, .move (.tmp e2), _, _, _, none⟩, ⟨some d4, .binOp .neq t (.tmp e3) (.const .nilIface) _, _, _, _, none⟩] =>
      if e1 = d1 ∧ e2 = d2 ∧ e3 = d3 ∧ t5 = d4 ∧ d1 < nt ∧ d2 < nt ∧ d3 < nt ∧ d4 < nt ∧ x1.size = 0 then some t else none
    | _, _ => none
  | _ => none
def recF (P : Program) (f : FuncId) (k : Nat) : Option TypeId := match P.funcs[f]? with
  | some fn => match fn.body with
    | some c => if fn.results.size = 0 ∧ k ≤ fn.ntmps then recC fn.ntmps c else none
    | none => none
  | none => none
def QuietD (P : Program) (f : FuncId) (k : Nat) : Prop := ∀ (caps : Array Value) (w : World), caps.size = k → CallsD P f caps .returning w fun e u' w' => (∃ v, e = .returned v) ∧ u' = .returning ∧ w' = w
theorem recC_shape {nt : Nat} {c : Code} {t : TypeId} (h : recC nt c = some t) : ∃ (i1 i2 : Nat) (d1 d2 d3 d4 : Nat) (at1 : Array TypeId) (y1 y2 y3 y4 : TypeId) (p1 p2 p3 p4 : String) (a1 a2 a3 a4 : Array Edge) (ty : TypeId) (thn : Code),
    c = .seq (.region i1 #[⟨some d1, .call ⟨.builtin .recover, #[], at1⟩, y1, p1, a1, none⟩, ⟨some d2, .assign (.tmp d1), y2, p2, a2, none⟩] false) (.seq (.region i2 #[⟨some d3, .move (.tmp d2), y3, p3, a3, none⟩, ⟨some d4, .binOp .neq t (.tmp d3) (.const .nilIface) ty, y4, p4, a4, none⟩] false) (.cond (.tmp d4) thn .skip)) ∧
    d1 < nt ∧ d2 < nt ∧ d3 < nt ∧ d4 < nt := by
  unfold recC at h
  split at h
  · rename_i i1 r1 i2 r2 t5 thn
    split at h
    · rename_i d1 x1 at1 y1 p1 a1 d2 e1 y2 p2 a2 d3 e2 y3 p3 a3 d4 t' e3 ty y4 p4 a4 h1 h2
      split at h
      · rename_i hc
        obtain ⟨rfl, rfl, rfl, rfl, c1, c2, c3, c4, c5⟩ := hc
        cases h
        have hx : x1 = #[] := Array.eq_empty_of_size_eq_zero c5
        subst hx
        obtain ⟨r1⟩ := r1
        obtain ⟨r2⟩ := r2
        change r1 = _ at h1
        change r2 = _ at h2
        subst h1 h2
        exact ⟨_, _, _, _, _, _, _, _, _, _, _, _, _, _, _, _, _, _, _, _, _, rfl, c1, c2, c3, c4⟩
      · cases h
    · cases h
  · cases h
theorem quietD {P : Program} {f : FuncId} {k : Nat} {t : TypeId} (h : recF P f k = some t) (hne : ∀ w, (execOp (fun _ => .nilIface) ⟨none, .binOp .neq t (.tmp 0) (.const .nilIface) 0, 0, "", #[], none⟩).run P w = .ok (.value (.bool false)) w) : QuietD P f k := by
  unfold recF at h
  split at h
  · rename_i fn hf
    split at h
    · rename_i c hb
      split at h
      · rename_i hc
        obtain ⟨hres, hk⟩ := hc
        obtain ⟨i1, i2, d1, d2, d3, d4, at1, y1, y2, y3, y4, p1, p2, p3, p4, a1, a2, a3, a4, ty, thn, rfl, g1, g2, g3, g4⟩ := recC_shape h
        intro caps w hcaps
        refine callsD_of_wpS hf hb fun c₀ cs hu => ?_
        have hsz : (caps ++ Array.replicate (fn.ntmps - caps.size) undef).size = fn.ntmps := by simp; omega
        generalize caps ++ Array.replicate (fn.ntmps - caps.size) undef = tm at hsz
        have hl : List.range 2 = [0, 1] := rfl
        apply wpS_seq
        apply wpS_region
        have r1 : ∀ (ρ : Operand → Value) , (execOp ρ ⟨some d1, .call ⟨.builtin .recover, #[], at1⟩, y1, p1, a1, none⟩).run P w = .ok .recover w := fun ρ => by
          simp [execOp, resolve, invoke, builtin, Sem.run_pure]
        have r2 : ∀ (ρ : Operand → Value), (execOp ρ ⟨some d2, .assign (.tmp d1), y2, p2, a2, none⟩).run P w = .ok (.value (ρ (.tmp d1))) w := fun ρ => by
          simp [execOp, Sem.run_pure]
        have r3 : ∀ (ρ : Operand → Value), (execOp ρ ⟨some d3, .move (.tmp d2), y3, p3, a3, none⟩).run P w = .ok (.value (ρ (.tmp d2))) w := fun ρ => by
          simp [execOp, Sem.run_pure]
        have r4 : ∀ (ρ : Operand → Value), ρ (.tmp d3) = .nilIface → ρ (.const .nilIface) = .nilIface → (execOp ρ ⟨some d4, .binOp .neq t (.tmp d3) (.const .nilIface) ty, y4, p4, a4, none⟩).run P w = .ok (.value (.bool false)) w := fun ρ h1 h2 => by
          have := hne w
          simp only [execOp] at this ⊢
          rw [h1, h2]
          exact this
        have hrec : recoverD (c₀ :: cs) = none := by simp [recoverD, hu]
        simp only [List.size_toArray, List.length_cons, List.length_nil, Nat.zero_add, Nat.reduceAdd, hl, wpOpsS, List.getElem?_toArray, List.getElem?_cons_zero, List.getElem?_cons_succ, Region.wanted, if_true, r1, r2, hrec, Oper.upon, Act.put, Exit.thenS]
        apply wpS_seq
        apply wpS_region
        simp only [List.size_toArray, List.length_cons, List.length_nil, Nat.zero_add, Nat.reduceAdd, hl, wpOpsS, List.getElem?_toArray, List.getElem?_cons_zero, List.getElem?_cons_succ, Region.wanted, if_true, r3, Oper.upon, Act.put, Exit.thenS]
        rw [r4]
        · simp only
          refine wpS_cond (t := false) (by simp [Act.eval, hsz, g4]) ?_
          simp only [Bool.false_eq_true, if_false]
          refine wpS_of_wp (wp_skip ?_)
          have hr0 : fn.results = #[] := Array.eq_empty_of_size_eq_zero hres
          refine ⟨rfl, .returning, by rw [← hu], .tuple #[], ?_, ⟨_, rfl⟩, rfl, rfl⟩
          simp [results, hr0, Sem.run_pure]
        · simp [Act.eval, hsz, g1, g2, g3]
        · rfl
      · cases h
    · cases h
  · cases h
variable [Laid]
def quietB (P : Program) (f : FuncId) (k : Nat) : Bool := match recF P f k with
  | some t => match runPure P (execOp (fun _ => .nilIface) ⟨none, .binOp .neq t (.tmp 0) (.const .nilIface) 0, 0, "", #[], none⟩) with
    | some (.value (.bool false)) => true
    | _ => false
  | none => false
theorem quiet_of {P : Program} {f : FuncId} {k : Nat} (h : quietB P f k = true) : QuietD P f k := by
  unfold quietB at h
  split at h
  · rename_i t ht
    split at h
    · rename_i hr
      exact quietD ht fun w => runPure_run hr w
    · cases h
  · cases h
def defC : Code → Option (Nat × FuncId × Nat)
  | .region _ ops false => match ops.toList with
    | [⟨some tc, .makeFunc (.func fd) ys caps, _, _, _, none⟩, ⟨none, .defer ⟨.value (.tmp tc'), xs, _⟩, _, _, _, none⟩] =>
      if tc' = tc ∧ ys.size = 0 ∧ xs.size = 0 then some (tc, fd, caps.size) else none
    | _ => none
  | _ => none
theorem defC_shape {c : Code} {tc fd k : Nat} (h : defC c = some (tc, fd, k)) : ∃ (i : Nat) (caps : Array Operand) (y1 y2 : TypeId) (p1 p2 : String) (a1 a2 : Array Edge) (at1 : Array TypeId),
    c = .region i #[⟨some tc, .makeFunc (.func fd) #[] caps, y1, p1, a1, none⟩, ⟨none, .defer ⟨.value (.tmp tc), #[], at1⟩, y2, p2, a2, none⟩] false ∧ caps.size = k := by
  unfold defC at h
  split at h
  · rename_i i ops
    split at h
    · rename_i hl
      split at h
      · rename_i hc
        obtain ⟨rfl, h1, h2⟩ := hc
        cases h
        obtain ⟨ops⟩ := ops
        change ops = _ at hl
        subst hl
        rename_i ys caps _ _ _ xs _ _ _ _
        have hx : xs = #[] := Array.eq_empty_of_size_eq_zero h2
        have hy : ys = #[] := Array.eq_empty_of_size_eq_zero h1
        subst hx hy
        exact ⟨_, _, _, _, _, _, _, _, _, rfl, rfl⟩
      · cases h
    · cases h
  · cases h
def factsD (P : Program) (f : FuncId) : Option (Nat × List ResultVar × IC × Nat × IC) :=
  if enters P f then match P.funcs[f]? with
    | some fn => match fn.body with
      | some (.seq a (.seq d r)) => match defC d, cCode P a, cCode P r with
        | some (tc, fd, k), some x, some y =>
          if okCode fn.ntmps a = true ∧ okCode fn.ntmps r = true ∧ tc < fn.ntmps ∧ enters P fd = true ∧ quietB P fd k = true then some (fn.ntmps, fn.results.toList, x, tc, y) else none
        | _, _, _ => none
      | _ => none
    | none => none
  else none
variable {P : Program} {Φ : Specs} {γ : Type} [CodR γ]
def thenD (P : Program) (Φ : Specs) (C : Ctx) (N : Nat) (K : List Nat) (tc : Nat) (y : IC) (R : Exit → SF → Prop) : Exit → SF → Prop
  | .normal, s => walkI P Φ C N K y ⟨updT s.τ tc .any, s.H, s.n⟩ (contI P Φ C N K R [])
  | _, _ => False
@[go_sem ↓] theorem thenD_normal (C : Ctx) (N : Nat) (K : List Nat) (tc : Nat) (y : IC) (R : Exit → SF → Prop) (τ : Nat → V) (H : Heap) (n : Nat) :
    thenD P Φ C N K tc y R .normal ⟨τ, H, n⟩ = walkI P Φ C N K y ⟨updT τ tc .any, H, n⟩ (contI P Φ C N K R []) := nd rfl
theorem conD (hg : Good P Φ) (K : List Nat) {f : FuncId} {nt : Nat} {rs : List ResultVar} {x y : IC} {tc : Nat} (hf : factsD P f = some (nt, rs, x, tc, y)) {τ : Type} [CodA τ] {g : τ → Option γ} (hn : CodA.ar τ ≤ nt)
    (h : ∀ (C : Top) t r, g t = some r → walkI P Φ C.ctx nt K x ⟨pars (CodA.encA t), fun _ => .unborn, 0⟩ (contI P Φ C.ctx nt K (thenD P Φ C.ctx nt K tc y (endsT P rs r)) [])) : Contract P f (FT g) := by
  unfold factsD at hf
  split at hf
  case isFalse => cases hf
  split at hf
  case h_2 => cases hf
  rename_i fn hfn
  split at hf
  case h_2 => cases hf
  rename_i a d r0 hc
  split at hf
  case h_2 => cases hf
  rename_i tc' fd k x' y' hdc hx hy
  split at hf
  case isFalse => cases hf
  rename_i hok
  obtain ⟨hoka, hokr, htc, hent, hqb⟩ := hok
  cases hf
  have hquiet := quiet_of hqb
  obtain ⟨i, caps, y1, y2, p1, p2, a1, a2, at1, rfl, hk⟩ := defC_shape hdc
  intro I w args xs r hlen hrep hI hL hF
  cases hd : (CodA.decA xs : Option τ) with
  | none => simp [FT, FTb, hd] at hF
  | some t =>
    cases hgt : g t with
    | none => simp [FT, FTb, hd, FTc, hgt] at hF
    | some b =>
      simp only [FT, FTb, hd, FTc, hgt, Option.some.injEq] at hF
      subst hF
      have hle := CodA.leA _ _ hd
      have hlen' : (CodA.encA t).length = args.size := by rw [← hle.1, hlen]
      have hrep' : ∀ (j : Nat) (x : V) (u : Value), (CodA.encA t)[j]? = some x → args[j]? = some u → Rep I w noPlaces x u := fun j x u hx hu => by
        have hj : j < xs.length := by rw [hle.1]; exact (List.getElem?_eq_some_iff.1 hx).1
        exact hle.2 j xs[j] x (by simp) hx I w u (hrep j xs[j] u (by simp) hu)
      refine calls_of_wp_defers hfn hc ((wpIn_wide (n := 0)).1 ?_)
      have hsz : args.size ≤ fn.ntmps := by rw [← hlen', CodA.arA]; exact hn
      have hT := h ⟨I, w, hL⟩ t b hgt
      have h1 := walkI_sound hg a _ _ _ hx hT hoka [] ⟨args ++ Array.replicate (fn.ntmps - args.size) undef, []⟩ w (by simp; omega) rfl (start_simF (C := Top.ctx ⟨I, w, hL⟩) hlen' hrep' hI rfl)
      refine wpIn_seq (wpIn_mono h1 ?_)
      rintro e a' w' ⟨hs', hd', s', hres, hS⟩
      simp only [contI_nil] at hres
      cases e with
      | normal =>
        simp only [thenD] at hres
        show (Code.seq _ _).wpIn _ _ _ _ _ _
        refine wpIn_seq (wpIn_region_list ?_)
        have run1 : (execOp a'.eval ⟨some tc, .makeFunc (.func fd) #[] caps, y1, p1, a1, none⟩).run P w' = .ok (.value (.func (.func fd) #[] (caps.map a'.eval))) w' := by
          simp [execOp, Instr.makeFunc, Sem.run_pure]
        refine wpListR_step (r := none) fun K1 hK1 => ?_
        rw [if_pos (by simp [Region.wanted])]
        refine wpIn_of_run run1 (by simp) (by simp) (hK1 _ _ ?_)
        refine wpListR_step (r := none) fun K2 hK2 => ?_
        rw [if_pos (by simp [Region.wanted])]
        refine ⟨fun f _ => rf_fn f, ?_⟩
        have hev : (a'.put (some tc) (.func (.func fd) #[] (caps.map a'.eval))).eval (.tmp tc) = .func (.func fd) #[] (caps.map a'.eval) := by
          simp [Act.eval, Act.put, hs', htc]
        have run2 : (execOp (a'.put (some tc) (.func (.func fd) #[] (caps.map a'.eval))).eval ⟨none, .defer ⟨.value (.tmp tc), #[], at1⟩, y2, p2, a2, none⟩).run P w' = .ok (.defer { target := .fn (.func fd) (caps.map a'.eval), args := #[] }) w' := by
          simp [execOp, resolve, hev, Deferred.ofValue, Sem.run_pure]
        show Oper.uponIn _ _ _ _ _ _ _ ((Oper.semAt none _ _).run P w')
        rw [Oper.semAt_none, run2, Oper.uponIn_defer]
        refine hK2 _ _ (wpListIn_nil ?_)
        obtain ⟨γ', I', hS⟩ := hS
        have hS2 : SimF (Top.ctx ⟨I, w, hL⟩) ⟨updT s'.τ tc .any, s'.H, s'.n⟩ (((({ a' with tmps := a'.tmps.setIfInBounds tc (.func (.func fd) #[] (caps.map a'.eval)), defers := { target := .fn (.func fd) (caps.map a'.eval), args := #[] } :: a'.defers } : Act)))) w' :=
          ⟨γ', I', hS.put (.any _ _) (by rw [hs']; exact htc)⟩
        have h2 := walkI_sound hg r0 _ _ _ hy hres hokr (({ target := .fn (.func fd) (caps.map a'.eval), args := #[] } : Deferred) :: a'.defers) _ w' (by simp [hs']) rfl hS2
        refine wpIn_mono h2 ?_
        rintro e a2 w2 ⟨hs2, hd2, s2, hres2, γ2, I2, hSS⟩
        have hq : (e = .normal ∨ e = .ret) ∧ ∃ v, resF P fn.results.toList s2 = some v ∧ CodR.decR v = some b := by
          simp only [contI_nil] at hres2
          cases e with
          | normal =>
            rw [endsT_normal] at hres2
            cases hv : resF P fn.results.toList s2 with
            | none => rw [hv] at hres2; exact hres2.elim
            | some v => rw [hv] at hres2; exact ⟨.inl rfl, v, rfl, hres2⟩
          | ret =>
            rw [endsT_ret] at hres2
            cases hv : resF P fn.results.toList s2 with
            | none => rw [hv] at hres2; exact hres2.elim
            | some v => rw [hv] at hres2; exact ⟨.inr rfl, v, rfl, hres2⟩
          | _ => exact hres2.elim
        obtain ⟨he, v, hv, hdv⟩ := hq
        obtain ⟨u, I3, hrun, hr, hI3⟩ := resG_run (fn := fn) hSS hv
        have hleav : Leaves P fn a2.tmps (fun e w' => ∃ u, e = .returned u ∧ Bel w.heap.size w w' ∧ Rep (fun g x => I g x ∨ (w.heap.size ≤ g ∧ g < w'.heap.size)) w' noPlaces (CodR.encR b) u) a2.defers .returning w2 := by
          rw [hd2, hd']
          refine leaves_cons (by simp) ?_ ((hquiet (caps.map a'.eval) w2 (by simp [hk])).mono ?_)
          · simp only [invoke]
            rw [Array.empty_append]
            exact enters_run hent _ _
          · rintro e u' w3 ⟨⟨v', rfl⟩, rfl, rfl⟩
            exact ⟨u, hrun, u, rfl, hSS.below, CodR.leR _ _ hdv _ _ _ (hr.mono (Pres.refl _ _) hI3 fun _ _ h => h)⟩
        rcases he with rfl | rfl
        · exact hleav
        · exact hleav
      | _ => exact hres.elim
instance : Cod UInt8 where
  enc := fun b => .sc (.int .u8 b.toNat)
  dec := fun | .sc (.int .u8 n) => if 0 ≤ n ∧ n < 256 then some (UInt8.ofNat n.toNat) else none | _ => none
  sz := 1
  len := fun _ => rfl
  dec_enc := fun b => by
    have := b.toNat_lt
    simp only
    rw [if_pos (by omega)]
    simp
  le := fun v a h => by
    split at h
    · split at h
      · rename_i hn
        cases h
        refine .one rfl rfl ?_
        rw [UInt8.toNat_ofNat']
        rename_i n
        have : ((n.toNat % 2 ^ 8 : Nat) : Int) = n := by omega
        rw [this]
        exact .refl _
      · cases h
    · cases h
@[go_sem ↓] theorem enc_u8 (b : UInt8) : Cod.enc b = .sc (.int .u8 b.toNat) := nd rfl
@[go_sem ↓] theorem sz_u8 : Cod.sz UInt8 = 1 := nd rfl
def strB (l : List UInt8) : ByteArray := ⟨l.toArray⟩
theorem strOf_strB (l : List UInt8) : strOf (l.map fun b => (b.toNat : Int)) = strB l := by
  have key : ∀ (l : List UInt8) (r : ByteArray), (l.map fun b => (b.toNat : Int)).foldl (fun r n => r.push (UInt8.ofNat n.toNat)) r = ⟨(r.data.toList ++ l).toArray⟩ := by
    intro l
    induction l with
    | nil => intro r; simp
    | cons b l ih =>
      intro r
      simp only [List.map_cons, List.foldl_cons]
      rw [ih]
      simp [ByteArray.push]
  unfold strOf strB
  rw [key]
  rfl
theorem opT_bytesF {P : Program} {C : Ctx} {tb ts e : TypeId} {ty : Nat} (hb : P.underlying tb = some (.slice e)) (he : P.underlying e = some (.int .u8)) (hs : P.underlying ts = some .string) {τ : Nat → V} {H : Heap} {n k : Nat} {l : List UInt8} {K : V → SF → Prop}
    (hx : τ k = .slice 1 (l.map Cod.enc)) (hk : K (.sc (.string (strB l))) ⟨τ, H, n⟩) : OpT P C (pu (.convert tb ts (.tmp k)) ty) ⟨τ, H, n⟩ K := by
  intro tm ds w γ I hS
  left
  have hr : Rep I w γ (.slice 1 (l.map Cod.enc)) ((⟨tm, ds⟩ : Act).eval (.tmp k)) := by
    have := hS.opd ds (.tmp k)
    simp only [opd] at this
    rw [hx] at this
    exact this
  obtain ⟨nl, hsrc⟩ := src_rep (P := P) hS (sz := 1) (by decide) (ids := []) (x := .slice 1 (l.map Cod.enc)) (ys := l.map Cod.enc) (by simp [news, V.elems]) hr (by simp [V.cells])
  have hnl : nl = (l.map fun b => (b.toNat : Int)).map (Value.int .u8) := by
    apply List.ext_getElem?
    intro i
    have h1 := hsrc.len
    rw [Nat.mul_one, List.length_map] at h1
    by_cases hi : i < l.length
    · obtain ⟨n0, hn0⟩ : ∃ n0, l[i]? = some n0 := ⟨l[i]'(by omega), by simp⟩
      have hy0 : (l.map (Cod.enc (α := UInt8)))[i]? = some (.sc (.int .u8 n0.toNat)) := by rw [List.getElem?_map, hn0]; rfl
      obtain ⟨u, hu, hru⟩ := hsrc.cell i 0 (.sc (.int .u8 n0.toNat)) (.sc (.int .u8 n0.toNat)) hy0 rfl
      have := hru.sc_eq
      subst this
      simp only [Nat.mul_one, Nat.add_zero] at hu
      rw [hu, List.getElem?_map, List.getElem?_map, hn0]; rfl
    · rw [List.getElem?_eq_none (by omega), List.getElem?_eq_none (by simp; omega)]
  refine ⟨.string (strB l), w, .sc (.string (strB l)), ⟨τ, H, n⟩, γ, I, ?_, hk, hS, .sc _ _⟩
  have hf := hsrc.first w (fun _ => rfl)
  have hc := hsrc.count w
  generalize hu : (⟨tm, ds⟩ : Act).eval (.tmp k) = u at hr hsrc hf hc
  have key : (convert tb ts u).run P w = .ok (.string (strB l)) w := by
    rw [← strOf_strB]
    generalize hes : l.map Cod.enc = es at hr
    cases hr with
    | slice _ _ _ g o cap f hcap hsz hcc hh =>
      rw [run_convert_bytes_string w tb ts e _ _ _ hb he hs]
      refine run_bytesToString w _ es.length cap (l.map fun b => (b.toNat : Int)) ?_
      rw [← hnl]
      have hl : es.length = l.length := by rw [← hes]; simp
      simpa [Builtin.firstCells, hl] using hf
    | nilslice _ _ A cap =>
      have h0 : l = [] := by simpa using hes
      subst h0
      rw [run_convert_bytes_string w tb ts e _ _ _ hb he hs]
      cases A with
      | none => simp [Conv.bytesToString, Sem.run_pure, strOf]
      | some a => exact run_bytesToString w a 0 cap [] (by simp [loadCells, loadCellsFrom, Sem.run_pure])
  simp only [pu, execOp, Act.eval] at hu ⊢
  simp only [hu, Sem.run_bind, key, Result.andThen, Sem.run_pure]
theorem stepI_bytesF {P : Program} {C : Ctx} {Φ : Specs} {Q : SF → Prop} {rest : List IOp} {d : Nat} {tb ts e : TypeId} {ty : Nat} (hb : P.underlying tb = some (.slice e)) (he : P.underlying e = some (.int .u8)) (hs : P.underlying ts = some .string) {τ : Nat → V} {H : Heap} {n k : Nat} {l : List UInt8} {E : Option (V × List (Nat × Obj))}
    (hx : τ k = .slice 1 (l.map Cod.enc)) (hE : E = none) (h : seqI P Φ C Q rest ⟨updT τ d (.sc (.string (strB l))), H, n⟩) :
    stepI P Φ C Q rest (some d) (some (.pur (pu (.convert tb ts (.tmp k)) ty))) τ H n E := by
  subst hE
  exact opT_bytesF (P := P) (C := C) (K := fun v s' => seqI P Φ C Q rest ⟨updT τ d v, s'.H, s'.n⟩) hb he hs hx h
theorem conv_noneF {P : Program} {Φ : Specs} {d d' : Option TypeDesc} {t t' : TypeId} {ty : Nat} {τ : Nat → V} {H : Heap} {n k : Nat} {sz : Nat} {es : List V} (hx : τ k = .slice sz es) : convI d d' (evStuck P Φ n τ H (.pur (pu (.convert t t' (.tmp k)) ty))) (.slice sz es) = none := by
  have : evStuck P Φ n τ H (.pur (pu (.convert t t' (.tmp k)) ty)) = none := by
    simp only [evStuck, evIO, evPure]
    rw [if_neg]
    simp [pu, Op.operands, opd, hx, V.conc]
  unfold convI
  split
  · rename_i h; cases h
  · exact this
theorem opT_bytesSF {P : Program} {C : Ctx} {ts tb e : TypeId} {ty : Nat} (hs : P.underlying ts = some .string) (hb : P.underlying tb = some (.slice e)) (he : P.underlying e = some (.int .u8)) {τ : Nat → V} {H : Heap} {n k : Nat} {s : ByteArray} {K : V → SF → Prop}
    (hx : τ k = .sc (.string s)) (hk : K (.slice 1 (s.data.toList.map Cod.enc)) ⟨τ, H, n⟩) : OpT P C (pu (.convert ts tb (.tmp k)) ty) ⟨τ, H, n⟩ K := by
  intro tm ds w γ I hS
  left
  have hr : (⟨tm, ds⟩ : Act).eval (.tmp k) = .string s := by
    have := hS.opd ds (.tmp k)
    simp only [opd] at this
    rw [hx] at this
    exact this.sc_eq
  have hcap := grownCap_ge w s.size 0 e
  have hrun := run_bytes_of_string (P := P) w ts tb e s hs hb he
  generalize hC : bytesRow s (grownCap w s.size 0 e) = cs at hrun
  have hsz : cs.size = grownCap w s.size 0 e := by rw [← hC]; exact bytesRow_size _ _ hcap
  have hdr : Sim C γ I τ H tm w.drew := hS.drawn (w.drawn + 1)
  have hbel : Bel w.drew.heap.size w.drew (w.drew.alloc (.cells cs e (cs.size, cs.size + 1))) := (Bel.refl _ _).alloc (Nat.le_refl _) _
  have hnsz : w.heap.size < (w.drew.alloc (.cells cs e (cs.size, cs.size + 1))).heap.size := by
    show w.heap.size < (w.heap.push _).size
    simp
  have hgrow := hdr.grow hbel (I' := fun g x => I g x ∨ g = w.heap.size) (fun _ _ h => .inl h) (fun g x h => h.elim .inl fun h => .inr ⟨by rw [h]; exact Nat.le_refl _, by rw [h]; exact hnsz⟩)
  refine ⟨.slice (some ⟨w.heap.size, 0, none⟩) s.size (grownCap w s.size 0 e), w.drew.alloc (.cells cs e (cs.size, cs.size + 1)), .slice 1 (s.data.toList.map Cod.enc), _, γ, _, ?_, hk, hgrow, ?_⟩
  · have hev : Act.eval ⟨tm, ds⟩ (.tmp k) = .string s := hr
    show (execOp (Act.eval ⟨tm, ds⟩) (pu (.convert ts tb (.tmp k)) ty)).run P w = _
    simp only [pu, execOp, hev, Sem.run_bind, hrun, Result.andThen_ok, Sem.run_pure]
  · have hl : (s.data.toList.map (Cod.enc (α := UInt8))).length = s.size := by simp
    rw [← hl]
    refine Rep.slice _ 1 _ w.heap.size 0 _ (fun i _ => (cs[i]?).getD undef) (by rw [hl]; exact hcap) (fun x hx => by
      obtain ⟨b, _, rfl⟩ := List.mem_map.1 hx
      rfl) (fun i j hi hj => ?_) fun i j x y hx hy => ?_
    · refine ⟨.inr rfl, ?_⟩
      have hi' : i < cs.size := by rw [hl] at hi; omega
      have h0 : 0 + i * 1 + j = i := by omega
      rw [h0]
      have := World.cell?_alloc_mark w.drew cs e (cs.size, cs.size + 1) i
      rw [show w.drew.heap.size = w.heap.size from rfl] at this
      rw [this]
      simp [hi']
    · have hxl := (List.getElem?_eq_some_iff.1 hx).1
      rw [List.getElem?_map, Option.map_eq_some_iff] at hx
      obtain ⟨b, hb, rfl⟩ := hx
      have hj : j = 0 := by
        have := (List.getElem?_eq_some_iff.1 hy).1
        simp [V.cells] at this
        omega
      subst hj
      cases hy
      have hi : i < s.size := by simpa using hxl
      rw [← hC, bytesRow_get _ _ _ hi]
      rw [Array.getElem?_toList] at hb
      rw [hb]
      exact .sc _ _
theorem stepI_bytesSF {P : Program} {C : Ctx} {Φ : Specs} {Q : SF → Prop} {rest : List IOp} {d : Nat} {ts tb e : TypeId} {ty : Nat} (hs : P.underlying ts = some .string) (hb : P.underlying tb = some (.slice e)) (he : P.underlying e = some (.int .u8)) {τ : Nat → V} {H : Heap} {n k : Nat} {s : ByteArray}
    (hx : τ k = .sc (.string s)) (h : seqI P Φ C Q rest ⟨updT τ d (.slice 1 (s.data.toList.map Cod.enc)), H, n⟩) {E : Option (V × List (Nat × Obj))} (hE : E = evStuck P Φ n τ H (.pur (pu (.convert ts tb (.tmp k)) ty))) :
    stepI P Φ C Q rest (some d) (some (.pur (pu (.convert ts tb (.tmp k)) ty))) τ H n E := by
  rw [hE, conv_noneS hs hb he hx]
  exact opT_bytesSF (P := P) (C := C) (K := fun v s' => seqI P Φ C Q rest ⟨updT τ d v, s'.H, s'.n⟩) hs hb he hx h
end Go.Idl
