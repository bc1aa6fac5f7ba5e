import Derived.Test.YtfmeplnoikfndaaDoorIdlM3
import Derived.Laws.BytesString
import Derived.RangeFuncLeaves
import Derived.RangeFuncRecord
import Derived.Maps.RangeRun
import Derived.Laws.IdiomStrings
namespace Go.Idl
set_option linter.all false
open Go.RowKit
variable [Laid]
def V.bkA (f : Nat → Option (Option Nat)) : V → Option V
  | .own id off len => match f id with
    | some (some k) => some (.own k off len)
    | some none => if len = 0 then some (.sc (.slice none 0 0)) else none
    | none => none
  | .ref id idx off => match f id with
    | some (some k) => some (.ref k idx off)
    | _ => none
  | .mapr id => match f id with
    | some (some k) => some (.mapr k)
    | _ => none
  | .any => some .any
  | .sc v => some (.sc v)
  | .slice s es => some (.slice s es)
  | .mt => some .mt
  | .mapf ks vs => some (.mapf ks vs)
  | .elem e off => some (.elem e off)
  | _ => none
def bkL (f : V → Option V) : List V → Option (List V)
  | [] => some []
  | v :: vs => match f v, bkL f vs with
    | some x, some xs => some (x :: xs)
    | _, _ => none
def V.bkC (f : Nat → Option (Option Nat)) : V → Option V
  | .fn g xs ys => match bkL (V.bkA f) xs, bkL (V.bkA f) ys with
    | some xs', some ys' => some (.fn g xs' ys')
    | _, _ => none
  | v => v.bkA f
def V.bk (f : Nat → Option (Option Nat)) : V → Option V
  | .agg cs => (bkL (V.bkC f) cs).map .agg
  | v => v.bkC f
def renP (γ : Places) (f : Nat → Option (Option Nat)) : Places := fun id => match f id with
  | some (some k) => γ k
  | _ => none
variable {C : Ctx} {γ : Places} {I : Imm} {τ : Nat → V} {H : Heap} {tm : Array Value} {w : World} {ids : Nat → Option (Option Nat)}
theorem bkL_get {f : V → Option V} : ∀ {xs ys : List V}, bkL f xs = some ys → ys.length = xs.length ∧ ∀ (j : Nat) (x : V), xs[j]? = some x → ∃ y, ys[j]? = some y ∧ f x = some y
  | [], ys, h => by cases h; simp
  | x :: xs, ys, h => by
    simp only [bkL] at h
    split at h
    · rename_i a l h1 h2
      cases h
      obtain ⟨e1, e2⟩ := bkL_get h2
      refine ⟨by simp [e1], fun j z hz => ?_⟩
      cases j with
      | zero => simp at hz; subst hz; exact ⟨a, rfl, h1⟩
      | succ j => exact e2 j z (by simpa using hz)
    · cases h
theorem Rep.bkA {x y : V} {u : Value} (hb : x.bkA ids = some y) (h : Rep I w γ y u) : Rep I w (renP γ ids) x u := by
  cases x <;> simp only [V.bkA] at hb
  case own id off len =>
    split at hb
    · rename_i k hk
      cases hb
      cases h with
      | own _ _ _ _ cap p c t m hp hcap hbl hroom => exact .own _ _ _ _ _ p c t m (by simp [renP, hk, hp]) hcap hbl hroom
      | own0 => exact .own0 _ _ _ _
    · split at hb
      · rename_i hl
        cases hb
        subst hl
        cases h.sc_eq
        exact .own0 _ _ _ _
      · cases hb
    · cases hb
  case ref id idx off =>
    split at hb
    · rename_i k hk
      cases hb
      cases h with
      | ref _ _ _ _ p hp => exact .ref _ _ _ _ p (by simp [renP, hk, hp])
    · cases hb
  case mapr id =>
    split at hb
    · rename_i k hk
      cases hb
      cases h with
      | mapr _ _ p hp => exact .mapr _ _ p (by simp [renP, hk, hp])
    · cases hb
  case any => cases hb; exact .any _ _
  case sc v => cases hb; cases h.sc_eq; exact .sc _ _
  case slice s es =>
    cases hb
    cases h with
    | nilslice => exact .nilslice _ _ _ _
    | slice _ _ _ g o cap f hcap hsz hc h => exact .slice _ _ _ g o cap f hcap hsz hc h
  case mt => cases hb; cases h; exact .mt _ _
  case mapf => 
    cases hb
    cases h with
    | mapf _ ks vs r clock ents hI hr hl' hk h => exact .mapf _ _ _ _ _ _ hI hr hl' hk h
  case elem =>
    cases hb
    cases h with
    | elem _ e off g o f hc h => exact .elem _ _ _ _ _ f hc h
  all_goals cases hb
theorem Rep.bkC {x y : V} {u : Value} (hb : x.bkC ids = some y) (h : Rep I w γ y u) : Rep I w (renP γ ids) x u := by
  cases x with
  | fn f xs ys =>
    simp only [V.bkC] at hb
    split at hb
    · rename_i xs' ys' h1 h2
      cases hb
      obtain ⟨l1, g1⟩ := bkL_get h1
      obtain ⟨l2, g2⟩ := bkL_get h2
      cases h with
      | fn _ _ _ _ us vs e1 e2 e3 e4 =>
        refine .fn _ _ _ _ us vs (by omega) (by omega) (fun j c u hc hu => ?_) fun j c u hc hu => ?_
        · obtain ⟨y, hy, hf⟩ := g1 j c hc; exact (e3 j y u hy hu).bkA hf
        · obtain ⟨y, hy, hf⟩ := g2 j c hc; exact (e4 j y u hy hu).bkA hf
    · cases hb
  | _ => exact Rep.bkA (by simpa only [V.bkC] using hb) h
theorem Rep.bk {x y : V} {u : Value} (hb : x.bk ids = some y) (h : Rep I w γ y u) : Rep I w (renP γ ids) x u := by
  cases x with
  | agg cs =>
    simp only [V.bk, Option.map_eq_some_iff] at hb
    obtain ⟨cs', hcs, rfl⟩ := hb
    obtain ⟨l1, g1⟩ := bkL_get hcs
    cases h with
    | agg _ _ vs hlen hh =>
      refine .agg _ _ _ (by omega) fun j c u hc hu => ?_
      obtain ⟨y, hy, hf⟩ := g1 j c hc
      exact (hh j y u hy hu).bkC hf
  | _ => exact Rep.bkC (by simpa only [V.bk] using hb) h
theorem cut_ren {m0 : Nat} (h0 : ∀ i, i < m0 → ids i = some (some i)) : ∀ id p, cutP γ m0 id = some p → renP γ ids id = some p := fun id p hp => by
  unfold cutP at hp
  split at hp
  · rename_i hlt; simp only [renP, h0 id hlt]; exact hp
  · cases hp
theorem Rep.closed {m0 : Nat} (h0 : ∀ i, i < m0 → ids i = some (some i)) {x : V} {u : Value} (hl : x.low m0 = true) (h : Rep I w γ x u) : Rep I w (renP γ ids) x u :=
  (h.low hl).mono (Pres.refl I w) (fun _ _ h => h) (cut_ren h0)
theorem Rep.closedC {m0 : Nat} (h0 : ∀ i, i < m0 → ids i = some (some i)) {x : V} {u : Value} (hl : x.lowC m0 = true) (h : Rep I w γ x u) : Rep I w (renP γ ids) x u :=
  (h.lowC hl).mono (Pres.refl I w) (fun _ _ h => h) (cut_ren h0)
def idsOk (ids : List (Option Nat)) : Prop := ∀ i j k : Nat, ids[i]? = some (some k) → ids[j]? = some (some k) → i = j
def idsB : List (Option Nat) → Bool
  | [] => true
  | none :: l => idsB l
  | some k :: l => !l.contains (some k) && idsB l
theorem idsB_ok : ∀ {ids : List (Option Nat)}, idsB ids = true → idsOk ids
  | [], _ => fun i j k h => by simp at h
  | x :: l, h => by
    have hl : idsB l = true := by
      cases x with
      | none => exact h
      | some k => simp only [idsB, Bool.and_eq_true] at h; exact h.2
    have ih := idsB_ok hl
    intro i j k hi hj
    cases i with
    | zero =>
      cases j with
      | zero => rfl
      | succ j =>
        simp at hi hj
        subst hi
        simp only [idsB, Bool.and_eq_true, Bool.not_eq_true', List.contains_eq_mem, decide_eq_false_iff_not] at h
        exact absurd (List.mem_of_getElem? hj) h.1
    | succ i =>
      cases j with
      | zero =>
        simp at hi hj
        subst hj
        simp only [idsB, Bool.and_eq_true, Bool.not_eq_true', List.contains_eq_mem, decide_eq_false_iff_not] at h
        exact absurd (List.mem_of_getElem? hi) h.1
      | succ j =>
        simp at hi hj
        rw [ih i j k hi hj]
def ObjBk (ids : Nat → Option (Option Nat)) (m0 : Nat) (x y : Obj) : Prop := (x = y ∧ y.low m0 = true) ∨ ∃ sz es es', x = .live sz es true ∧ y = .live sz es' true ∧ bkL (V.bk ids) es = some es'
theorem ObjBk.live {m0 : Nat} {x y : Obj} (h : ObjBk ids m0 x y) : x.isLive ↔ y.isLive := by
  rcases h with ⟨rfl, _⟩ | ⟨sz, es, es', rfl, rfl, _⟩
  · rfl
  · exact ⟨fun _ => trivial, fun _ => trivial⟩
theorem ObjBk.born {m0 : Nat} {x y : Obj} (h : ObjBk ids m0 x y) (hy : y ≠ .unborn) : x ≠ .unborn := by
  rcases h with ⟨rfl, _⟩ | ⟨sz, es, es', rfl, rfl, _⟩
  · exact hy
  · exact fun h => by cases h
theorem bk_cells {e e' : V} (h : e.bk ids = some e') : e.cells.length = e'.cells.length ∧ ∀ (j : Nat) (x : V), e.cells[j]? = some x → ∃ x', e'.cells[j]? = some x' ∧ x.bkC ids = some x' := by
  cases e with
  | agg cs =>
    simp only [V.bk, Option.map_eq_some_iff] at h
    obtain ⟨cs', hcs, rfl⟩ := h
    obtain ⟨l1, g1⟩ := bkL_get hcs
    exact ⟨l1.symm, g1⟩
  | _ =>
    have key : e'.cells = [e'] := by
      simp only [V.bk, V.bkC, V.bkA] at h
      (repeat' split at h) <;> first | (cases h; rfl) | (cases h; done)
    rw [key]
    refine ⟨rfl, fun j x hx => ?_⟩
    cases j with
    | zero => simp only [V.cells, List.getElem?_cons_zero, Option.some.injEq] at hx; subst hx; exact ⟨e', rfl, by simpa only [V.bk] using h⟩
    | succ j => simp [V.cells] at hx
theorem Sim.ren (h : Sim C γ I τ H tm w) {m0 : Nat} (hlow : LowC C m0) (h0 : ∀ i, i < m0 → ids i = some (some i)) {τ' : Nat → V} {H' : Heap} (hinj : ∀ i j k : Nat, ids i = some (some k) → ids j = some (some k) → (H' i).isLive → (H' j).isLive → i = j)
    (hτ : ∀ t, τ' t = .any ∨ ∃ v, (τ' t).bk ids = some v ∧ v = τ t)
    (h1 : ∀ i k, ids i = some (some k) → H' i = .dead ∨ ObjBk ids m0 (H' i) (H k)) (h2 : ∀ i, ids i = some none → H' i = .dead ∨ ∃ sz, H' i = .live sz [] true) (h3 : ∀ i, ids i = none → H' i = .unborn) :
    Sim C (renP γ ids) I τ' H' tm w where
  below := h.below
  imm0 := h.imm0
  immB := h.immB
  immS := h.immS
  kept := fun fr hf t => (h.kept fr hf t).closed h0 (hlow fr hf t)
  tmp := fun t => by
    rcases hτ t with e | ⟨v, e, rfl⟩
    · rw [e]; exact .any _ _
    · exact Rep.bk e (h.tmp t)
  dom := fun id p hp => by
    unfold renP at hp
    split at hp
    · rename_i k hk
      obtain ⟨d1, d2, d3⟩ := h.dom k p hp
      refine ⟨?_, d2, d3⟩
      rcases h1 id k hk with e | e
      · rw [e]; exact fun h => by cases h
      · exact e.born d1
    · cases hp
  obj := fun id sz es mu hl => by
    cases hid : ids id with
    | none => rw [h3 id hid] at hl; cases hl
    | some o =>
      cases o with
      | none =>
        rcases h2 id hid with e | ⟨sz', e⟩
        · rw [e] at hl; cases hl
        · rw [e] at hl; cases hl; exact .inl ⟨rfl, by simp [renP, hid]⟩
      | some k =>
        have hob : ObjBk ids m0 (H' id) (H k) := by
          rcases h1 id k hid with e | e
          · rw [e] at hl; cases hl
          · exact e
        rcases hob with ⟨e1, e2⟩ | ⟨sz', es1, es', e1, e2, e3⟩
        · rw [e1] at hl
          rw [hl] at e2
          simp only [Obj.low, List.all_eq_true] at e2
          rcases h.obj k sz es mu hl with ⟨g1, g2⟩ | ⟨p, c, t, ha⟩
          · exact .inl ⟨g1, by simp [renP, hid, g2]⟩
          · refine .inr ⟨p, c, t, ⟨by simp [renP, hid, ha.place], ha.size, ha.blk, ha.len, fun i j e x he hx => ?_, ha.mutb, ha.fix, ha.quiet⟩⟩
            obtain ⟨u, hu, hr⟩ := ha.cell i j e x he hx
            exact ⟨u, hu, hr.closedC h0 (low_cell (e2 e (List.mem_of_getElem? he)) hx)⟩
        · rw [e1] at hl
          cases hl
          obtain ⟨l1, g1⟩ := bkL_get e3
          rcases h.obj k sz es' true e2 with ⟨q1, q2⟩ | ⟨p, c, t, ha⟩
          · exact .inl ⟨List.eq_nil_of_length_eq_zero (by rw [← l1, q1]; rfl), by simp [renP, hid, q2]⟩
          · refine .inr ⟨p, c, t, ⟨by simp [renP, hid, ha.place], ha.size, ha.blk, fun e he => ?_, fun i j e x he hx => ?_, ha.mutb, by simp, ha.quiet⟩⟩
            · obtain ⟨i, hi, rfl⟩ := List.getElem_of_mem he
              obtain ⟨e', he', hb⟩ := g1 i _ (List.getElem?_eq_getElem hi)
              rw [(bk_cells hb).1]
              exact ha.len e' (List.mem_of_getElem? he')
            · obtain ⟨e', he', hb⟩ := g1 i e he
              obtain ⟨x', hx', hbx⟩ := (bk_cells hb).2 j x hx
              obtain ⟨u, hu, hr⟩ := ha.cell i j e' x' he' hx'
              exact ⟨u, hu, hr.bkC hbx⟩
  ext := fun id x hl => by
    cases hid : ids id with
    | none => rw [h3 id hid] at hl; cases hl
    | some o =>
      cases o with
      | none =>
        rcases h2 id hid with e | ⟨sz', e⟩
        · rw [e] at hl; cases hl
        · rw [e] at hl; cases hl
      | some k =>
        obtain ⟨e1, e2⟩ : H' id = H k ∧ (H k).low m0 = true := by
          rcases h1 id k hid with e | e | ⟨sz', es1, es', e1, _, _⟩
          · rw [e] at hl; cases hl
          · exact e
          · rw [e1] at hl; cases hl
        rw [e1] at hl
        rw [hl] at e2
        obtain ⟨p, g1, g2, o, g3, g4⟩ := h.ext k x hl
        refine ⟨p, by simp [renP, hid, g1], g2, o, g3, ?_⟩
        cases x with
        | iter s pos => exact g4
        | raw o' => exact g4
        | miter ks vs left last => exact g4
        | map ks vs =>
          obtain ⟨ents, clock, k1, k2, k3, k4, k5⟩ := g4
          simp only [Obj.low, Ext.low, List.all_eq_true] at e2
          exact ⟨ents, clock, k1, k2, k3, k4, fun j x e hx he => (k5 j x e hx he).closed h0 (e2 x (List.mem_of_getElem? hx))⟩
  inj := fun id id' p p' hl hl' hp hp' hb => by
    unfold renP at hp hp'
    split at hp
    · rename_i k hk
      split at hp'
      · rename_i k' hk'
        have l1 : (H k).isLive := by
          rcases h1 id k hk with e | e
          · rw [e] at hl; exact hl.elim
          · exact e.live.1 hl
        have l2 : (H k').isLive := by
          rcases h1 id' k' hk' with e | e
          · rw [e] at hl'; exact hl'.elim
          · exact e.live.1 hl'
        have := h.inj k k' p p' l1 l2 hp hp' hb
        subst this
        exact hinj id id' k hk hk' hl hl'
      · cases hp'
    · cases hp
def holdsR (τ : Nat → V) (ids : Nat → Option (Option Nat)) : List (Nat × V) → Prop
  | [] => True
  | (k, v) :: L => v.bk ids = some (τ k) ∧ holdsR τ ids L
@[go_sem ↓] theorem holdsR_nil (τ : Nat → V) (ids : Nat → Option (Option Nat)) : holdsR τ ids [] = True := nd rfl
@[go_sem ↓] theorem holdsR_cons (τ : Nat → V) (ids : Nat → Option (Option Nat)) (k : Nat) (v : V) (L : List (Nat × V)) : holdsR τ ids ((k, v) :: L) = (v.bk ids = some (τ k) ∧ holdsR τ ids L) := nd rfl
def oneO (H : Heap) (m0 : Nat) (x : Obj) : Option Nat → Prop
  | some k => x = .dead ∨ (H k = x ∧ x.low m0 = true)
  | none => x = .dead ∨ ∃ sz, x = .live sz [] true
def holdsP (H : Heap) (m0 : Nat) : List (Option Nat) → List Obj → Prop
  | [], [] => True
  | i :: ids, x :: O => oneO H m0 x i ∧ holdsP H m0 ids O
  | _, _ => False
@[go_sem ↓] theorem holdsP_nil (H : Heap) (m0 : Nat) : holdsP H m0 [] [] = True := nd rfl
@[go_sem ↓] theorem holdsP_some (H : Heap) (m0 : Nat) (k : Nat) (sz : Nat) (es : List V) (mu : Bool) (ids : List (Option Nat)) (O : List Obj) : holdsP H m0 (some k :: ids) (.live sz es mu :: O) = ((H k = .live sz es mu ∧ (Obj.live sz es mu).low m0 = true) ∧ holdsP H m0 ids O) := by simp [holdsP, oneO]
@[go_sem ↓] theorem holdsP_live (H : Heap) (m0 : Nat) (sz : Nat) (es : List V) (mu : Bool) (ids : List (Option Nat)) (O : List Obj) : holdsP H m0 (none :: ids) (.live sz es mu :: O) = ((es = [] ∧ mu = true) ∧ holdsP H m0 ids O) := by simp [holdsP, oneO]
theorem slotsR_of {τ : Nat → V} : ∀ {L : List (Nat × V)}, holdsR τ ids L → ∀ t, slotsL L t = .any ∨ ∃ v, (slotsL L t).bk ids = some v ∧ v = τ t
  | [], _, t => .inl rfl
  | (k, v) :: L, h, t => by
    rw [slotsL_cons]
    by_cases e : t = k
    · subst e; rw [if_pos rfl]; exact .inr ⟨_, h.1, rfl⟩
    · rw [if_neg e]; exact slotsR_of h.2 t
theorem holdsP_of {H : Heap} {m0 : Nat} : ∀ {ids : List (Option Nat)} {O : List Obj}, holdsP H m0 ids O → ids.length = O.length ∧ (∀ i k, ids[i]? = some (some k) → objsL O i = .dead ∨ (objsL O i = H k ∧ (H k).low m0 = true)) ∧
    (∀ i, ids[i]? = some none → objsL O i = .dead ∨ ∃ sz, objsL O i = .live sz [] true)
  | [], [], _ => by simp
  | [], _ :: _, h => h.elim
  | _ :: _, [], h => h.elim
  | o :: ids, x :: O, h => by
    obtain ⟨e1, e2, e3⟩ := holdsP_of h.2
    refine ⟨by simp [e1], fun i k hk => ?_, fun i hi => ?_⟩
    · cases i with
      | zero =>
        simp at hk
        subst hk
        rcases h.1 with g | ⟨g1, g2⟩
        · exact .inl g
        · exact .inr ⟨g1.symm, by rw [g1]; exact g2⟩
      | succ i => exact e2 i k (by simpa using hk)
    · cases i with
      | zero =>
        simp at hi
        subst hi
        exact h.1
      | succ i => exact e3 i (by simpa using hi)
def maskI : List (Option Nat) → List Obj → List (Option Nat)
  | _ :: ids, .dead :: O => none :: maskI ids O
  | i :: ids, _ :: O => i :: maskI ids O
  | _, _ => []
theorem maskI_get : ∀ {ids : List (Option Nat)} {O : List Obj}, ids.length = O.length → ∀ (i : Nat) (k : Nat), ids[i]? = some (some k) → (objsL O i).isLive → (maskI ids O)[i]? = some (some k)
  | [], O, _, i, k, h, _ => by simp at h
  | _ :: _, [], hl, i, k, _, _ => by simp at hl
  | a :: ids, x :: O, hl, i, k, h, hv => by
    have ih := fun i h hv => maskI_get (ids := ids) (O := O) (by simpa using hl) i k h hv
    cases i with
    | zero =>
      cases x with
      | dead => exact hv.elim
      | unborn => exact hv.elim
      | live => simpa [maskI] using h
      | ext => simpa [maskI] using h
    | succ i =>
      have := ih i (by simpa using h) hv
      cases x <;> simpa [maskI] using this
theorem LeF.ren {C : Ctx} {τ : Nat → V} {H : Heap} {n : Nat} {L : List (Nat × V)} {O : List Obj} {m : Nat} (ids : List (Option Nat)) (hids : idsB (maskI ids O) = true) (hm : m = O.length) (m0 : Nat) (h : holdsR τ (ids[·]?) L ∧ holdsP H m0 ids O)
    (h0 : ∀ i, i < m0 → ids[i]? = some (some i) := by first | (intro i hi; exact absurd hi (Nat.not_lt_zero _)) | decide) (hlow : LowC C m0 := by first | exact LowC.top _ _ | assumption) : LeF C ⟨τ, H, n⟩ ⟨slotsL L, objsL O, m⟩ := by
  subst hm
  rintro a w ⟨γ, I, hS⟩
  obtain ⟨e1, e2, e3⟩ := holdsP_of h.2
  exact ⟨_, I, hS.ren (ids := (ids[·]?)) hlow h0 (fun i j k hi hj li lj => idsB_ok hids i j k (maskI_get e1 i k hi li) (maskI_get e1 j k hj lj)) (slotsR_of h.1) (fun i k hk => (e2 i k hk).imp id .inl) e3 fun i hi => objsL_out (by rw [← e1]; simpa using hi)⟩
attribute [go_sem] V.bk V.bkC V.bkA bkL
end Go.Idl
namespace Go.Idl
set_option linter.all false
open Go.RowKit
variable [Laid]
class KeyC (κ : Type) where
  deq : DecidableEq κ
  ag : Bool
  ks : List CK
  kval : κ → Value
  kdec : Value → Option κ
  kdec_val : ∀ k, kdec (kval k) = some k
  kval_dec : ∀ v k, kdec v = some k → v = kval k
  okk : ∀ k, okKey ag (kval k) = true
  len : ∀ k, (kval k).cells.size = ks.length
  eqk : ∀ a b, eqK ks (kval a).cells.toList (kval b).cells.toList = some (decide (a = b))
instance (priority := low) instKeyDeq (κ : Type) [KeyC κ] : DecidableEq κ := KeyC.deq
def decKey : List Value → Option KeyD
  | [.string x, .string y, .int .i64 n] => some ⟨x, y, n⟩
  | _ => none
section
variable {κ α : Type} [KeyC κ]
structure KM (κ α : Type) where
  o : Option (List (κ × α))
def decKs : List Value → Option (List κ)
  | [] => some []
  | v :: vs => match KeyC.kdec v, decKs vs with
    | some k, some l => some (k :: l)
    | _, _ => none
def decM [Cod α] : V → Option (KM κ α)
  | .sc (.map none) => some ⟨none⟩
  | .mapf ks vs => match (decKs ks : Option (List κ)), (decL Cod.dec vs : Option (List α)) with
    | some a, some b => if a.length = b.length then some ⟨some (a.zip b)⟩ else none
    | _, _ => none
  | _ => none
end
end Go.Idl
namespace Go.Idl
set_option linter.all false
open Go.RowKit
variable [Laid]
variable {P : Program} {Φ : Specs} (n : Nat) (τ : Nat → V) (H : Heap)
def mksI (n sz bytes : Nat) (z : V) : V → V → Obj → Option (V × List (Nat × Obj))
  | .sc (.int .i64 l), .sc (.int .i64 c), .unborn => if 0 ≤ l ∧ l ≤ c ∧ c ≤ 4294967296 ∧ bytes * c.toNat ≤ 281474976710656 then some (.own n 0 l.toNat, [(n, .live sz (List.replicate l.toNat z) true)]) else none
  | _, _, _ => none
@[congr] theorem mksI_congr {n sz bytes : Nat} {z l l' c c' : V} {o o' : Obj} (h1 : l = l') (h2 : c = c') (h3 : o = o') : mksI n sz bytes z l c o = mksI n sz bytes z l' c' o' := by rw [h1, h2, h3]
@[go_sem ↓] theorem ev_mks (sz bytes : Nat) (z : V) (l c : A) : evIO P Φ n τ H (.mks sz bytes z l c) = mksI n sz bytes z (l.get τ) (c.get τ) (H n) := by
  simp only [evIO]
  generalize l.get τ = vl
  generalize c.get τ = vc
  generalize H n = ob
  cases ob <;> cases vl with
  | sc u => cases u with
    | int k a => cases k <;> cases vc with
      | sc u' => cases u' with
        | int k' a' => cases k' <;> rfl
        | _ => rfl
      | _ => rfl
    | _ => cases vc <;> rfl
  | _ => cases vc <;> rfl
@[go_sem ↓] theorem mksI_at (sz bytes : Nat) (z : V) (l c : Int) : mksI n sz bytes z (.sc (.int .i64 l)) (.sc (.int .i64 c)) .unborn = if 0 ≤ l ∧ l ≤ c ∧ c ≤ 4294967296 ∧ bytes * c.toNat ≤ 281474976710656 then some (.own n 0 l.toNat, [(n, .live sz (List.replicate l.toNat z) true)]) else none := nd rfl
def elemsO (sz off len : Nat) : Obj → Option (List V)
  | .live s es _ => if s = sz ∧ off + len ≤ es.length then some ((es.drop off).take len) else none
  | _ => none
@[go_sem ↓] theorem news_own (sz id off len : Nat) : news H sz (.own id off len) = elemsO sz off len (H id) := by
  simp only [news, V.elems]
  generalize H id = ob
  cases ob <;> rfl
@[go_sem ↓] theorem elemsO_live (sz off len s : Nat) (es : List V) (mu : Bool) : elemsO sz off len (.live s es mu) = if s = sz ∧ off + len ≤ es.length then some ((es.drop off).take len) else none := nd rfl
def appO (n sz bytes : Nat) (ys : List V) (id off len : Nat) : Obj → Option (V × List (Nat × Obj))
  | .live s es mu => if s = sz ∧ off + len = es.length ∧ (len + ys.length) * bytes ≤ 68719476736 ∧ len + ys.length ≤ 4294967296 ∧ ys.all (okE sz) = true then some (.own n 0 (len + ys.length), [(id, .dead), (n, .live sz (es.drop off ++ ys) mu)]) else none
  | _ => none
def appI (H : Heap) (n sz bytes : Nat) : Option (List V) → V → Obj → Option (V × List (Nat × Obj))
  | some ys, .own id off len, .unborn => appO n sz bytes ys id off len (H id)
  | some ys, .mt, .unborn => if ys.length * bytes ≤ 68719476736 ∧ ys.length ≤ 4294967296 ∧ ys.all (okE sz) = true then some (.own n 0 ys.length, [(n, .live sz ys true)]) else none
  | some ys, .sc (.slice none 0 0), .unborn => if ys.length * bytes ≤ 68719476736 ∧ ys.length ≤ 4294967296 ∧ ys.all (okE sz) = true then some (.own n 0 ys.length, [(n, .live sz ys true)]) else none
  | _, _, _ => none
@[congr] theorem appI_congr {H : Heap} {n sz bytes : Nat} {ys ys' : Option (List V)} {x x' : V} {o o' : Obj} (h1 : ys = ys') (h2 : x = x') (h3 : o = o') : appI H n sz bytes ys x o = appI H n sz bytes ys' x' o' := by rw [h1, h2, h3]
@[go_sem ↓] theorem ev_app (sz bytes : Nat) (x y : A) : evIO P Φ n τ H (.app sz bytes x y) = appI H n sz bytes (news H sz (y.get τ)) (x.get τ) (H n) := by
  simp only [evIO]
  generalize news H sz (y.get τ) = ys
  generalize x.get τ = vx
  generalize H n = ob
  cases ob <;> cases ys with
  | none => cases vx with
    | sc u => cases u <;> rfl
    | _ => rfl
  | some ys => cases vx with
    | own id off len =>
      first | rfl | (simp only [appI, Option.bind_some]; generalize H id = ob2; cases ob2 <;> rfl)
    | sc u => cases u with
      | slice a b c => cases a <;> cases b <;> cases c <;> rfl
      | _ => rfl
    | _ => rfl
@[go_sem ↓] theorem appI_own (sz bytes : Nat) (ys : List V) (id off len : Nat) : appI H n sz bytes (some ys) (.own id off len) .unborn = appO n sz bytes ys id off len (H id) := nd rfl
@[go_sem ↓] theorem appO_live (sz bytes : Nat) (ys : List V) (id off len s : Nat) (es : List V) (mu : Bool) : appO n sz bytes ys id off len (.live s es mu) = if s = sz ∧ off + len = es.length ∧ (len + ys.length) * bytes ≤ 68719476736 ∧ len + ys.length ≤ 4294967296 ∧ ys.all (okE sz) = true then some (.own n 0 (len + ys.length), [(id, .dead), (n, .live sz (es.drop off ++ ys) mu)]) else none := nd rfl
@[go_sem ↓] theorem bound_none (d : Nat) : bound d none = some d := nd rfl
@[go_sem ↓] theorem bound_int (d : Nat) (k : IntKind) (j : Int) : bound d (some (.sc (.int k j))) = if 0 ≤ j then some j.toNat else none := nd rfl
def slI (e : Option (V × List (Nat × Obj))) (H : Heap) (sz : Nat) (lo hi mx : Option V) : V → Option (V × List (Nat × Obj))
  | .sc (.string _) => e
  | v => evSliceI H sz v lo hi mx
@[congr] theorem slI_congr {e : Option (V × List (Nat × Obj))} {H : Heap} {sz : Nat} {lo lo' hi hi' mx mx' : Option V} {x x' : V} (h1 : lo = lo') (h2 : hi = hi') (h3 : mx = mx') (h4 : x = x') : slI e H sz lo hi mx x = slI e H sz lo' hi' mx' x' := by rw [h1, h2, h3, h4]
@[go_sem ↓] theorem ev_sl (sz : Nat) (x : A) (lo hi mx : Option A) (o : Oper) : evIO P Φ n τ H (.sl sz x lo hi mx o) = slI (evPure P (opd τ) o) H sz (lo.map (A.get τ)) (hi.map (A.get τ)) (mx.map (A.get τ)) (x.get τ) := by
  simp only [evIO]
  generalize x.get τ = vx
  cases vx with
  | sc u => cases u <;> rfl
  | _ => rfl
def sl0 (sz s : Nat) (es : List V) : Option Nat → Option Nat → Option (V × List (Nat × Obj))
  | some l, some r => if l ≤ r ∧ r ≤ es.length ∧ s = sz then some (.slice sz ((es.take r).drop l), []) else none
  | _, _ => none
@[go_sem ↓] theorem slI_slice (e : Option (V × List (Nat × Obj))) (sz s : Nat) (es : List V) (lo hi : Option V) : slI e H sz lo hi none (.slice s es) = sl0 sz s es (bound 0 lo) (bound es.length hi) := by
  simp only [slI, evSliceI, V.len, Option.bind_some]
  cases bound 0 lo with
  | none => rfl
  | some l => cases bound es.length hi with
    | none => rfl
    | some r =>
      simp only [Option.bind_some, sl0, bound, Nat.le_refl, true_and]
      by_cases h1 : l ≤ r ∧ r ≤ es.length
      · by_cases h2 : s = sz <;> simp [h1, h2]
      · rw [if_neg h1, if_neg (fun h => h1 ⟨h.1, h.2.1⟩)]
def slO (sz id off len : Nat) : Option Nat → Option Nat → Obj → Option (V × List (Nat × Obj))
  | some l, some r, .live s _ _ => if l ≤ r ∧ r ≤ len ∧ s = sz then some (.own id (off + l) (r - l), []) else none
  | _, _, _ => none
@[congr] theorem slO_congr {sz id off len : Nat} {l l' r r' : Option Nat} {o o' : Obj} (h1 : l = l') (h2 : r = r') (h3 : o = o') : slO sz id off len l r o = slO sz id off len l' r' o' := by rw [h1, h2, h3]
@[go_sem ↓] theorem slI_own (e : Option (V × List (Nat × Obj))) (sz id off len : Nat) (lo hi : Option V) : slI e H sz lo hi none (.own id off len) = slO sz id off len (bound 0 lo) (bound len hi) (H id) := by
  simp only [slI, evSliceI, V.len, Option.bind_some]
  generalize H id = ob
  cases bound 0 lo with
  | none => rfl
  | some l => cases bound len hi with
    | none => rfl
    | some r =>
      simp only [Option.bind_some, bound, Nat.le_refl, true_and]
      cases ob with
      | live s es mu =>
        simp only [slO]
        by_cases h1 : l ≤ r ∧ r ≤ len
        · by_cases h2 : s = sz <;> simp [h1, h2]
        · rw [if_neg h1, if_neg (fun h => h1 ⟨h.1, h.2.1⟩)]
      | _ => simp only [slO]; split <;> rfl
@[go_sem ↓] theorem slO_live (sz id off len l r s : Nat) (es : List V) (mu : Bool) : slO sz id off len (some l) (some r) (.live s es mu) = if l ≤ r ∧ r ≤ len ∧ s = sz then some (.own id (off + l) (r - l), []) else none := nd rfl
end Go.Idl
namespace Go.Idl
set_option linter.all false
open Go.RowKit
variable [Laid]
variable {P : Program} {Φ : Specs} (n : Nat) (τ : Nat → V) (H : Heap)
end Go.Idl
namespace Go.Idl
set_option linter.all false
open Go.RowKit
variable [Laid]
def strOf (ns : List Int) : ByteArray := ns.foldl (fun r n => r.push (UInt8.ofNat n.toNat)) ByteArray.empty
def bytV : List V → Option (List Int)
  | [] => some []
  | .sc (.int .u8 n) :: vs => (bytV vs).map (n :: ·)
  | _ => none
theorem bytV_get : ∀ {ys : List V} {ns : List Int}, bytV ys = some ns → ys = ns.map fun n => .sc (.int .u8 n)
  | [], ns, h => by simp [bytV] at h; subst h; rfl
  | y :: ys, ns, h => by
    unfold bytV at h
    split at h
    · rename_i h0; cases h0
    · rename_i n vs heq
      cases heq
      rw [Option.map_eq_some_iff] at h
      obtain ⟨l, h1, rfl⟩ := h
      rw [bytV_get h1]; rfl
    · cases h
variable {P : Program} {C : Ctx}
theorem opT_bytes {tb ts e : TypeId} {ty : Nat} (hb : P.underlying tb = some (.slice e)) (he : P.underlying e = some (.int .u8)) (hs : P.underlying ts = some .string) {τ : Nat → V} {H : Heap} {n k id off len : Nat} {ys : List V} {ns : List Int} {K : V → SF → Prop}
    (hx : τ k = .own id off len) (hn : news H 1 (.own id off len) = some ys) (hv : bytV ys = some ns) (hk : K (.sc (.string (strOf ns))) ⟨τ, H, n⟩) : OpT P C (pu (.convert tb ts (.tmp k)) ty) ⟨τ, H, n⟩ K := by
  intro tm ds w γ I hS
  left
  have hr : Rep I w γ (.own id off len) ((⟨tm, ds⟩ : Act).eval (.tmp k)) := by
    have := hS.opd ds (.tmp k)
    simp only [opd] at this
    rw [hx] at this
    exact this
  have hys := bytV_get hv
  obtain ⟨nl, hsrc⟩ := src_rep (P := P) hS (sz := 1) (by decide) (ids := [id]) (x := .own id off len) (ys := ys) (by rw [news_only (by simp [V.ids])]; exact hn) hr (by rw [hys]; simp [V.cells])
  have hnl : nl = ns.map (Value.int .u8) := by
    apply List.ext_getElem?
    intro i
    have h1 := hsrc.len
    rw [Nat.mul_one] at h1
    have h2 : ys.length = ns.length := by rw [hys]; simp
    by_cases hi : i < ys.length
    · obtain ⟨n0, hn0⟩ : ∃ n0, ns[i]? = some n0 := ⟨ns[i]'(by omega), by simp⟩
      have hy0 : ys[i]? = some (.sc (.int .u8 n0)) := by rw [hys, List.getElem?_map, hn0]; rfl
      obtain ⟨u, hu, hru⟩ := hsrc.cell i 0 (.sc (.int .u8 n0)) (.sc (.int .u8 n0)) hy0 rfl
      have := hru.sc_eq
      subst this
      simp only [Nat.mul_one, Nat.add_zero] at hu
      rw [hu, List.getElem?_map, hn0]; rfl
    · rw [List.getElem?_eq_none (by omega), List.getElem?_eq_none (by simp; omega)]
  refine ⟨.string (strOf ns), w, .sc (.string (strOf ns)), ⟨τ, H, n⟩, γ, I, ?_, hk, hS, .sc _ _⟩
  have hf := hsrc.first w (fun _ => rfl)
  have hc := hsrc.count w
  generalize hu : (⟨tm, ds⟩ : Act).eval (.tmp k) = u at hr hsrc hf hc
  have key : (convert tb ts u).run P w = .ok (.string (strOf ns)) w := by
    cases hr with
    | own _ _ _ _ cap p c t m hp hcap hbl hroom =>
      rw [run_convert_bytes_string w tb ts e _ _ _ hb he hs]
      have hl : ys.length = len := by simpa [Builtin.lenOf, Sem.run_pure] using hc.symm
      refine run_bytesToString w _ len cap ns ?_
      rw [← hnl, ← hl]
      simpa [Builtin.firstCells] using hf
    | own0 _ _ _ A =>
      rw [run_convert_bytes_string w tb ts e _ _ _ hb he hs]
      have hl : ys.length = 0 := by simpa [Builtin.lenOf, Sem.run_pure] using hc.symm
      have h0 : ns = [] := by
        have : ys.length = ns.length := by rw [hys]; simp
        exact List.eq_nil_of_length_eq_zero (by omega)
      subst h0
      cases A with
      | none => simp [Conv.bytesToString, Sem.run_pure, strOf]
      | some a => exact run_bytesToString w a 0 0 [] (by simp [loadCells, loadCellsFrom, Sem.run_pure])
  simp only [pu, execOp, Act.eval] at hu ⊢
  simp only [hu, Sem.run_bind, key, Result.andThen, Sem.run_pure]
theorem stepI_bytes {Φ : Specs} {Q : SF → Prop} {rest : List IOp} {d : Nat} {tb ts e : TypeId} {ty : Nat} (hb : P.underlying tb = some (.slice e)) (he : P.underlying e = some (.int .u8)) (hs : P.underlying ts = some .string) {τ : Nat → V} {H : Heap} {n k id off len : Nat} {ys : List V} {ns : List Int} {E : Option (V × List (Nat × Obj))}
    (hx : τ k = .own id off len) (hn : news H 1 (.own id off len) = some ys) (hv : bytV ys = some ns) (hE : E = none) (h : seqI P Φ C Q rest ⟨updT τ d (.sc (.string (strOf ns))), H, n⟩) :
    stepI P Φ C Q rest (some d) (some (.pur (pu (.convert tb ts (.tmp k)) ty))) τ H n E := by
  subst hE
  exact opT_bytes (P := P) (C := C) (K := fun v s' => seqI P Φ C Q rest ⟨updT τ d v, s'.H, s'.n⟩) hb he hs hx hn hv h
theorem conv_none {Φ : Specs} {d d' : Option TypeDesc} {t t' : TypeId} {ty : Nat} {τ : Nat → V} {H : Heap} {n k id off len : Nat} (hx : τ k = .own id off len) : convI d d' (evStuck P Φ n τ H (.pur (pu (.convert t t' (.tmp k)) ty))) (.own id off len) = none := by
  have : evStuck P Φ n τ H (.pur (pu (.convert t t' (.tmp k)) ty)) = none := by
    simp only [evStuck, evIO, evPure]
    rw [if_neg]
    simp [pu, Op.operands, opd, hx, V.conc]
  unfold convI
  split
  · rename_i h; cases h
  · exact this
end Go.Idl
namespace Go.Idl
set_option linter.all false
open Go.RowKit
variable [Laid]
variable {P : Program} {Φ : Specs} {C : Ctx} {γ : Places} {I : Imm} {τ : Nat → V} {H : Heap} {tm : Array Value} {w : World} {N : Nat}
section
variable {K : List Nat} {bef : List Nat} {n0 : Nat} {Q : SF → Prop} {rest : List IOp} {i : Nat} {acc : List Rec} {n : Nat}
@[go_sem ↓] theorem stepU_callv (d : Nat) (x : A) (xs : List A) (nd : List Nat) : stepU P Φ C bef n0 Q rest i acc (some d) (.callv x xs) τ H n nd none = (fullI bef i ∧ apartI bef acc ∧ inlV P C (xs.map (A.get τ)) ⟨τ, H, n0 + i⟩ (fun v s' => seqI P Φ C Q rest ⟨updT τ d v, s'.H, s'.n⟩) (x.get τ)) := Idl.nd rfl
end
section
variable {s : SF} {ps : List Nat} {x y : IC}
def MarkAt (C : Ctx) (ds : List Deferred) : Option Nat → Prop
  | none => ds = []
  | some id => ∃ D, ds = [{ target := .collected D, args := #[] }] ∧ ∃ fr, fr ∈ C.keep ∧ fr.1 1 = .ref id 0 0 ∧ fr.2.getD 1 undef = .pointer (some ⟨D, 0, none⟩)
def TopI (P : Program) (N : Nat) (ic : IC) (C : Ctx) (mk : Option Nat) (s : SF) (Q : Exit → Ctx → Option Nat → SF → Prop) : Prop :=
  ∀ c, cCode P c = some ic → okCode N c = true → C.rnd = none → ∀ a w, a.tmps.size = N → MarkAt C a.defers mk → SimF C s a w →
    c.wpIn (rf none) 0 P (fun e a' w' => ∃ C' mk' s', Q e C' mk' s' ∧ C'.I0 = C.I0 ∧ C'.w0 = C.w0 ∧ C'.rnd = none ∧ a'.tmps.size = N ∧ MarkAt C' a'.defers mk' ∧ SimF C' s' a' w') a w
def thenT (K : Ctx → Option Nat → SF → Prop) (Q : Exit → Ctx → Option Nat → SF → Prop) : Exit → Ctx → Option Nat → SF → Prop
  | .normal, C, mk, s => K C mk s
  | e, C, mk, s => Q e C mk s
theorem TopI.seq {a b : IC} {mk : Option Nat} {s : SF} {Q : Exit → Ctx → Option Nat → SF → Prop} (h : TopI P N a C mk s (thenT (fun C' mk' s' => TopI P N b C' mk' s' Q) Q)) : TopI P N (.seq a b) C mk s Q := by
  intro c hc hok hr a w h1 h2 h3
  cases c <;> simp only [cCode] at hc
  case seq x y =>
    split at hc
    · rename_i x' y' hx hy
      cases hc
      simp only [okCode, Bool.and_eq_true] at hok
      refine wpIn_seq (wpIn_mono (h x hx hok.1 hr a w h1 h2 h3) ?_)
      rintro e a' w' ⟨C', mk', s', k1, k2, k3, k4, k5, k6, k7⟩
      cases e with
      | normal =>
        refine wpIn_mono (k1 y hy hok.2 k4 a' w' k5 k6 k7) ?_
        rintro e a2 w2 ⟨C2, mk2, s2, g1, g2, g3, g4⟩
        exact ⟨C2, mk2, s2, g1, g2.trans k2, g3.trans k3, g4⟩
      | _ => exact ⟨C', mk', s', k1, k2, k3, k4, k5, k6, k7⟩
    · cases hc
  all_goals first
    | cases hc
    | (split at hc <;> cases hc)
    | (simp only [Option.map_eq_some_iff] at hc; obtain ⟨l, hl, he⟩ := hc; split at he <;> cases he)
    | (simp only [Option.map_eq_some_iff] at hc; obtain ⟨l, hl, he⟩ := hc; split at he <;> (try split at he) <;> cases he)
    | (simp only [Option.map_eq_some_iff] at hc; obtain ⟨l, hl, he⟩ := hc; cases he)
end
end Go.Idl
namespace Go.Idl
set_option linter.all false
open Go.RowKit
variable [Laid]
section
variable {P : Program} {C : Ctx}
end
end Go.Idl
namespace Go.Idl
set_option linter.all false
open Go.RowKit
variable [Laid]
theorem set_same (H : Heap) (id : Nat) (o : Idl.Obj) (h : H id = o) : updH H id o = H := by
  funext k
  unfold updH
  split
  · rename_i e; rw [e, h]
  · rfl
theorem inv_sound {P : Program} {C : Ctx} {n : Nat} {r : Option Nat} {Φ : Specs} (hΦ : Met P Φ) (hm : P.follows .mixedOrders = true) {ops : Array Oper} {id : Nat} {ds : List Deferred} {J : (Nat → Bool) → SF → Prop} {Q : Exit → Act → World → Prop} {s : SF} {a : Act} {w : World}
    (hok : ops.toList.all (dstOk n) = true) (hdr : drawOk ops = true) (hn : a.tmps.size = n) (hds : a.defers = ds) (hS : SimF C s a w) (h0 : J (fun _ => false) s)
    (hstep : ∀ (S : Nat → Bool) (s : SF) (j : Nat) (o : Oper), ops[j]? = some o → S j = false → (∀ k, ((befs ops.toList []).getD j 0).testBit k = true → S k = true) → J S s → wpSeq P Φ C ops (J fun k => if k = j then true else S k) [o] s)
    (hend : ∀ (S : Nat → Bool) (s : SF), (∀ k, k < ops.size → S k = true) → J S s → ∀ a' w', a'.tmps.size = n → a'.defers = ds → SimF C s a' w' → Q .normal a' w') : (Code.region id ops true).wpIn (rf r) 0 P Q a w := by
  have hback : ∀ j oj, ops[j]? = some oj → ∀ e, e ∈ oj.after → Region.binds .any e = true → e.on < j := by
    intro j oj hj e he hb
    simp only [drawOk, List.all_eq_true, List.mem_range, Bool.and_eq_true] at hdr
    have := (hdr j (Array.getElem?_eq_some_iff.1 hj).1).1
    rw [Array.getD_eq_getD_getElem?, hj, Option.getD_some, Array.all_eq_true_iff_forall_mem] at this
    have := this e he
    simpa [hb] using this
  let S : Array Bool → Nat → Bool := fun listed k => listed.getD k false
  let Inv : Array Bool → Act → World → Prop := fun listed a w => a.tmps.size = n ∧ a.defers = ds ∧ Down ops (S listed) ∧ ∃ s, J (S listed) s ∧ SimF C s a w
  have hS0 : S (Array.replicate ops.size false) = fun _ => false := by
    funext k
    simp only [S, Array.getD_eq_getD_getElem?, Array.getElem?_replicate]
    split <;> rfl
  refine wpIn_region_any hm (wpAny_inv Inv ?_ ?_ ?_ ops.size _ a _ ?_ (by simp) (unl_new _ _ (Nat.le_refl _)))
  · rintro listed a' w' ⟨h1, h2, _, s', h4, h5⟩ hsz hall
    refine hend _ s' (fun k hk => ?_) h4 a' w' h1 h2 h5
    have := hall k hk
    simp only [S]
    rw [Array.getD_eq_getD_getElem?] at this ⊢
    cases hh : listed[k]? with
    | none => rw [Array.getElem?_eq_none_iff] at hh; omega
    | some b => rw [hh] at this; simpa using this
  · rintro listed a' w' _ hsz hr
    intro k
    induction k using Nat.strongRecOn with
    | _ k ih =>
      intro hk
      cases hh : listed.getD k true with
      | true => rfl
      | false =>
        exfalso
        have hmem : k ∈ Region.ready .any ops listed := by
          rw [mem_ready]
          refine ⟨hh, ops[k], by simp [hk], fun e he hb => ?_⟩
          have hlt := hback k ops[k] (by simp [hk]) e he hb
          have := ih e.on hlt (by omega)
          rw [Array.getD_eq_getD_getElem?] at this ⊢
          cases hh2 : listed[e.on]? with
          | none => rw [Array.getElem?_eq_none_iff] at hh2; omega
          | some b => rw [hh2] at this; simpa using this
        rw [hr] at hmem
        cases hmem
  · rintro listed a' w' i ⟨h1, h2, hdown, s', h4, h5⟩ hsz hi
    obtain ⟨h0, oi, hoi, hpre⟩ := mem_ready.1 hi
    have hilt : i < ops.size := (Array.getElem?_eq_some_iff.1 hoi).1
    have hsi : S listed i = false := by
      simp only [S]
      rw [Array.getD_eq_getD_getElem?] at h0 ⊢
      cases hh : listed[i]? with
      | none => simp
      | some b => rw [hh] at h0; simpa using h0
    have hpre' : ∀ o, ops[i]? = some o → ∀ e, e ∈ o.after → Region.binds .any e = true → S listed e.on = true := fun o ho e he hb => by
      rw [hoi] at ho
      cases ho
      exact hpre e he hb
    have hbefI : ∀ k, ((befs ops.toList []).getD i 0).testBit k = true → S listed k = true := fun k hk =>
      befs_down hdown ops.toList [] (by simp) (by simp) i k hk hpre'
    have hdown' : Down ops (S (listed.setIfInBounds i true)) := by
      intro k ok hk hsk e he hb
      have keep : ∀ q, S listed q = true → S (listed.setIfInBounds i true) q = true := fun q hq => getD_set_true hq
      by_cases e' : k = i
      · subst e'
        exact keep _ (hpre' ok hk e he hb)
      · refine keep _ (hdown k ok hk ?_ e he hb)
        simp only [S] at hsk ⊢
        rw [getD_set_ne false (fun h => e' h.symm)] at hsk
        exact hsk
    have hset : S (listed.setIfInBounds i true) = fun k => if k = i then true else S listed k := by
      funext k
      simp only [S]
      by_cases e : k = i
      · subst e; simp [hsz, hilt]
      · rw [if_neg e, getD_set_ne false (fun h => e h.symm)]
    have hdi : dstOk n oi = true := by
      rw [List.all_eq_true] at hok
      exact hok oi (by simpa using Array.mem_of_getElem? hoi)
    exact wpSeq_step (n := n) (ds := ds) hΦ hoi hdi h1 h2 h5 (hstep _ s' i oi hoi hsi hbefI h4) fun a2 w2 s2 k1 k2 k3 k4 => ⟨k1, k2, hdown', s2, by rw [hset]; exact k3, k4⟩
  · refine ⟨hn, hds, ?_, s, ?_, ?_⟩
    rotate_left
    · rw [hS0]; exact h0
    · obtain ⟨γ, I, hS⟩ := hS
      exact ⟨γ, I, hS.drawn _⟩
    · intro i o _ hi
      rw [hS0] at hi
      cases hi
theorem cOps_get {P : Program} {ops : Array Oper} : ∀ (l : List Oper) (il : List IOp), cOps P ops l = some il → ∀ (j : Nat) (o : Oper), l[j]? = some o → ∃ io, il[j]? = some io ∧ cOps P ops [o] = some [io]
  | [], il, _, j, o, h => by simp at h
  | x :: l, il, hc, j, o, h => by
    simp only [cOps] at hc
    split at hc
    · rename_i y ys h1 h2
      cases hc
      cases j with
      | zero =>
        simp only [List.getElem?_cons_zero, Option.some.injEq] at h
        subst h
        exact ⟨y, rfl, by simp [cOps, h1]⟩
      | succ j => exact cOps_get l ys h2 j o h
    · cases hc
theorem cOps_len {P : Program} {ops : Array Oper} : ∀ (l : List Oper) (il : List IOp), cOps P ops l = some il → il.length = l.length
  | [], il, h => by simp [cOps] at h; subst h; rfl
  | x :: l, il, hc => by
    simp only [cOps] at hc
    split at hc
    · rename_i y ys h1 h2
      cases hc
      rw [List.length_cons, List.length_cons, cOps_len l ys h2]
    · cases hc
theorem TriI.orders {P : Program} {Φ : Specs} {C : Ctx} {n : Nat} (hg : Good P Φ) (K : List Nat) {bef : List Nat} {ops : List IOp} {s : SF} {Q : Exit → SF → Prop} (J : (Nat → Bool) → SF → Prop) (h0 : J (fun _ => false) s)
    (hstep : ∀ (S : Nat → Bool) (s : SF) (j : Nat) (o : IOp), ops[j]? = some o → S j = false → (∀ k, (bef.getD j 0).testBit k = true → S k = true) → J S s → seqI P Φ C (J fun k => if k = j then true else S k) [o] s)
    (hend : ∀ (S : Nat → Bool) (s : SF), (∀ k, k < ops.length → S k = true) → J S s → Q .normal ⟨prune K s.τ, s.H, s.n⟩) : TriI P C n (.any bef ops) s Q := by
  intro c hc
  cases c <;> simp only [cCode] at hc
  case region id l d =>
    simp only [Option.map_eq_some_iff] at hc
    obtain ⟨l', hl, he⟩ := hc
    cases d with
    | true =>
      simp only [if_true] at he
      split at he
      · cases he
        intro hok ds a w hn hd hS
        simp only [okCode, Bool.and_eq_true, Bool.or_eq_true, Bool.not_eq_true'] at hok
        have hdr : drawOk l = true := hok.2.resolve_left (by simp)
        have hlen := cOps_len _ _ hl
        refine inv_sound hg.met hg.orders hok.1 hdr hn hd hS (J := J) h0 (fun S s j o ho hj hb hJ => ?_) (fun S s hall hJ a' w' h1 h2 h3 => ⟨h1, h2, _, hend S s (fun k hk => hall k (by rw [hlen] at hk; simpa using hk)) hJ, LeF.prune K s a' w' h3⟩)
        obtain ⟨io, hio, hc1⟩ := cOps_get _ _ hl j o (by simpa using ho)
        exact seqI_sound _ _ _ hc1 (hstep S s j io hio hj hb hJ)
      · cases he
    | false => simp at he
  all_goals first
    | cases hc
    | (split at hc <;> cases hc)
    | (simp only [Option.map_eq_some_iff] at hc; obtain ⟨l, hl, he⟩ := hc; cases he)
end Go.Idl
