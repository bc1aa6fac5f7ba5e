/-
  What can be read as data stands for an ideal value of its type's shape.
-/
import Derived.Test.YtnafhnnhhdmnfaaIdlZ
import Derived.ProofKit
namespace Go.Idl
set_option linter.all false
open Go.RowKit

/-- The element of so many cells. -/
def V.ofCells (ag : Bool) (cs : List V) : V := if ag then .agg cs else cs.headD .any

def ShapeFs (S : TypeId → List V → Prop) : List Field → List V → Prop
  | [], xs => xs = []
  | fd :: fs, xs => ∃ p q, xs = p ++ q ∧ S fd.type p ∧ ShapeFs S fs q

/-- The cells of a value of a type, as a reading gives them. -/
def Shape (P : Program) : Nat → TypeId → List V → Prop
  | 0, _, _ => False
  | f + 1, t, xs => match P.underlying t with
    | some .bool => ∃ b, xs = [.sc (.bool b)]
    | some (.int k) => ∃ n, xs = [.sc (.int k n)] ∧ k.min ≤ n ∧ n ≤ k.max
    | some .string => ∃ s, xs = [.sc (.string s)] ∧ s.size ≤ maxLen
    | some (.slice e) => ∃ es : List (List V), xs = [.slice (P.cellsOf e) (es.map (V.ofCells (aggT P e)))] ∧ es.length ≤ maxLen ∧ ∀ x ∈ es, Shape P f e x
    | some (.struct fs) => ShapeFs (Shape P f) fs.toList xs
    | _ => False

def layoutOk (P : Program) : Nat → List Field → Nat → Bool
  | o, [], n => o == n
  | o, fd :: fs, n => fd.offset == o && layoutOk P (o + P.cellsOf fd.type) fs n

/-- Types of plain data: numbers, strings, structs, slices. -/
def plainT (P : Program) : Nat → TypeId → Bool
  | 0, _ => false
  | f + 1, t => match P.underlying t with
    | some .bool => true
    | some (.int _) => true
    | some .string => true
    | some (.slice e) => plainT P f e && decide (0 < P.cellsOf e) && (aggT P e || decide (P.cellsOf e = 1))
    | some (.struct fs) => fs.toList.all (fun fd => plainT P f fd.type) && layoutOk P 0 fs.toList (P.cellsOf t)
    | _ => false

theorem mapM_at {α β : Type} {f : α → Option β} : ∀ {l : List α} {ys : List β}, l.mapM f = some ys → ys.length = l.length ∧ ∀ (i : Nat) x y, l[i]? = some x → ys[i]? = some y → f x = some y
  | [], ys, h => by simp at h; subst h; simp
  | a :: l, ys, h => by
    simp only [List.mapM_cons, Option.bind_eq_bind, Option.bind_eq_some_iff, Option.pure_def, Option.some.injEq] at h
    obtain ⟨y, hy, zs, hz, rfl⟩ := h
    obtain ⟨h1, h2⟩ := mapM_at hz
    refine ⟨by simp [h1], fun i x y' hx hy' => ?_⟩
    cases i with
    | zero => simp at hx hy'; subst hx hy'; exact hy
    | succ i => exact h2 i x y' (by simpa using hx) (by simpa using hy')

theorem layoutOk_le {P : Program} : ∀ {fs : List Field} {o n : Nat}, layoutOk P o fs n = true → o ≤ n
  | [], o, n, h => by simp [layoutOk] at h; omega
  | fd :: fs, o, n, h => by
    simp only [layoutOk, Bool.and_eq_true] at h
    have := layoutOk_le h.2
    omega

/-- Cells stand for cells. -/
def RepAll (w : World) (xs : List V) (cs : List Value) : Prop :=
  xs.length = cs.length ∧ ∀ (j : Nat) x u, xs[j]? = some x → cs[j]? = some u → Rep (fun g _ => g < w.heap.size) w noPlaces x u

theorem RepAll.one {w : World} {x : V} {u : Value} (h : Rep (fun g _ => g < w.heap.size) w noPlaces x u) : RepAll w [x] [u] :=
  ⟨rfl, fun j y v hy hv => by
    cases j with
    | zero => simp at hy hv; subst hy hv; exact h
    | succ j => simp at hy⟩
theorem RepAll.append {w : World} {xs ys : List V} {cs ds : List Value} (h1 : RepAll w xs cs) (h2 : RepAll w ys ds) : RepAll w (xs ++ ys) (cs ++ ds) := by
  refine ⟨by simp [h1.1, h2.1], fun j x u hx hu => ?_⟩
  by_cases hj : j < xs.length
  · rw [List.getElem?_append_left hj] at hx
    rw [List.getElem?_append_left (by rw [← h1.1]; exact hj)] at hu
    exact h1.2 j x u hx hu
  · rw [List.getElem?_append_right (by omega)] at hx
    rw [List.getElem?_append_right (by rw [← h1.1]; omega)] at hu
    rw [← h1.1] at hu
    exact h2.2 _ x u hx hu

variable {H : Type} {enc : TypeId × Value → H} {P : Program} {w : World}

theorem cell_lt {a : Addr} {v : Value} (h : w.cell? a = some v) : a.block < w.heap.size ∧ a.spot = none := by
  unfold World.cell? at h
  split at h
  · rename_i hb
    refine ⟨(Array.getElem?_eq_some_iff.1 hb).1, ?_⟩
    split at h
    · cases h
    · rename_i hs; simpa using hs
  · cases h

section
variable {f : Nat} {t : TypeId} {xs : List V}
theorem shape_bool (h : P.underlying t = some .bool) : Shape P (f + 1) t xs = ∃ b, xs = [.sc (.bool b)] := by simp only [Shape, h]
theorem shape_int {k : IntKind} (h : P.underlying t = some (.int k)) : Shape P (f + 1) t xs = ∃ n, xs = [.sc (.int k n)] ∧ k.min ≤ n ∧ n ≤ k.max := by simp only [Shape, h]
theorem shape_string (h : P.underlying t = some .string) : Shape P (f + 1) t xs = ∃ s, xs = [.sc (.string s)] ∧ s.size ≤ maxLen := by simp only [Shape, h]
theorem shape_slice {e : TypeId} (h : P.underlying t = some (.slice e)) : Shape P (f + 1) t xs = ∃ es : List (List V), xs = [.slice (P.cellsOf e) (es.map (V.ofCells (aggT P e)))] ∧ es.length ≤ maxLen ∧ ∀ x ∈ es, Shape P f e x := by simp only [Shape, h]
theorem shape_struct {fs : Array Field} (h : P.underlying t = some (.struct fs)) : Shape P (f + 1) t xs = ShapeFs (Shape P f) fs.toList xs := by simp only [Shape, h]
end

theorem plain_cells (P : Program) {f : Nat} {t : TypeId} (hp : plainT P f t = true) {xs : List V} (hs : Shape P f t xs) (hag : aggT P t = false) : ∃ x, xs = [x] ∧ x.cells = [x] := by
  cases f with
  | zero => simp [plainT] at hp
  | succ f =>
    simp only [plainT] at hp
    unfold aggT at hag
    cases hu : P.underlying t with
    | none => rw [hu] at hp; simp at hp
    | some ty =>
      rw [hu] at hp hag
      cases ty with
      | bool => rw [shape_bool hu] at hs; obtain ⟨b, rfl⟩ := hs; exact ⟨_, rfl, rfl⟩
      | int k => rw [shape_int hu] at hs; obtain ⟨n, rfl, _⟩ := hs; exact ⟨_, rfl, rfl⟩
      | string => rw [shape_string hu] at hs; obtain ⟨s, rfl, _⟩ := hs; exact ⟨_, rfl, rfl⟩
      | slice e => rw [shape_slice hu] at hs; obtain ⟨es, rfl, _⟩ := hs; exact ⟨_, rfl, rfl⟩
      | struct fs => simp at hag
      | _ => simp at hp

theorem ofCells_cells {ag : Bool} {cs : List V} (h : ag = false → ∃ x, cs = [x] ∧ x.cells = [x]) : (V.ofCells ag cs).cells = cs := by
  unfold V.ofCells
  cases ag with
  | true => rfl
  | false =>
    obtain ⟨x, rfl, hx⟩ := h rfl
    simpa using hx

theorem cells_at {a : Addr} {n : Nat} {cs : List Value} (h : w.cells? 0 a n = some cs) : cs.length = n ∧ ∀ j u, cs[j]? = some u → w.cell? (a.add j) = some u := by
  unfold World.cells? at h
  rw [if_pos (Nat.zero_le _)] at h
  obtain ⟨h1, h2⟩ := mapM_at h
  simp at h1
  refine ⟨h1, fun j u hu => ?_⟩
  have hj : j < n := by rw [← h1]; exact (List.getElem?_eq_some_iff.1 hu).1
  exact h2 j j u (by simp [hj]) hu

theorem repAll_agg {t : TypeId} {xs : List V} {cs : List Value} (h : RepAll w xs cs) : Rep (fun g _ => g < w.heap.size) w noPlaces (.agg xs) (.agg cs.toArray) :=
  .agg _ _ _ (by simpa using h.1) fun j c u hc hu => h.2 j c u hc (by simpa using hu)

theorem fields_shape {fuel f : Nat} (ih : ∀ (t : TypeId) (cs : List Value) (d : DataW H) (ps : List MemPlace), DataW.trod enc P w 0 (fun _ => true) true fuel t cs = some (d, ps) → plainT P f t = true →
      cs.length = P.cellsOf t → ∃ xs, RepAll w xs cs ∧ Shape P f t xs) :
    ∀ (fs : List Field) (o : Nat) (cs : List Value) (ys : List (DataW H × List MemPlace)), layoutOk P o fs cs.length = true → fs.all (fun fd => plainT P f fd.type) = true →
      (fs.mapM fun fd => DataW.trod enc P w 0 (fun _ => true) true fuel fd.type ((cs.drop fd.offset).take (P.cellsOf fd.type))) = some ys →
      ∃ xs, RepAll w xs (cs.drop o) ∧ ShapeFs (Shape P f) fs xs
  | [], o, cs, ys, hl, _, _ => by
    simp [layoutOk] at hl
    exact ⟨[], ⟨by simp; omega, by simp⟩, rfl⟩
  | fd :: fs, o, cs, ys, hl, hp, h => by
    simp only [layoutOk, Bool.and_eq_true, beq_iff_eq] at hl
    simp only [List.all_cons, Bool.and_eq_true] at hp
    simp only [List.mapM_cons, Option.bind_eq_bind, Option.bind_eq_some_iff, Option.pure_def, Option.some.injEq] at h
    obtain ⟨⟨d, q⟩, hy, zs, hz, rfl⟩ := h
    obtain ⟨x2, h3, h4⟩ := fields_shape ih fs _ cs zs hl.2 hp.2 hz
    have hle := layoutOk_le hl.2
    obtain ⟨x1, h1, h2⟩ := ih fd.type _ d q hy hp.1 (by rw [hl.1]; simp; omega)
    refine ⟨x1 ++ x2, ?_, x1, x2, rfl, h2, h4⟩
    have e : cs.drop o = (cs.drop fd.offset).take (P.cellsOf fd.type) ++ cs.drop (o + P.cellsOf fd.type) := by
      rw [hl.1, ← List.drop_drop, List.take_append_drop]
    rw [e]
    exact h1.append h3

theorem trod_shape : ∀ (fuel : Nat) (t : TypeId) (cs : List Value) (d : DataW H) (ps : List MemPlace) (f : Nat), DataW.trod enc P w 0 (fun _ => true) true fuel t cs = some (d, ps) → plainT P f t = true →
    ∃ xs, RepAll w xs cs ∧ Shape P f t xs
  | 0, t, cs, d, ps, f, h, _ => by simp [DataW.trod] at h
  | fuel + 1, t, cs, d, ps, 0, h, hp => by simp [plainT] at hp
  | fuel + 1, t, cs, d, ps, f + 1, h, hp => by
    simp only [plainT] at hp
    cases hu : P.underlying t with
    | none => rw [hu] at hp; simp at hp
    | some ty =>
      rw [hu] at hp
      cases ty with
      | bool =>
        simp only [DataW.trod, hu] at h
        simp only [shape_bool hu]
        split at h <;> simp_all
        exact ⟨_, .one (.sc _ _), by simp⟩
      | int k =>
        simp only [DataW.trod, hu] at h
        simp only [shape_int hu]
        split at h <;> simp_all
        refine ⟨_, .one (.sc _ _), _, rfl, ?_⟩
        simpa [Lit.wf] using h.1.2
      | string =>
        simp only [DataW.trod, hu] at h
        simp only [shape_string hu]
        split at h <;> simp_all
        exact ⟨_, .one (.sc _ _), _, rfl, h.1⟩
      | slice e =>
        simp only [Bool.and_eq_true, Bool.or_eq_true, decide_eq_true_eq] at hp
        obtain ⟨⟨hp, h0⟩, hag⟩ := hp
        simp only [shape_slice hu]
        simp only [DataW.trod, hu] at h
        split at h <;> rename_i heq <;> try (cases heq; done)
        · exact ⟨_, .one (.nilslice _ (P.cellsOf e) _ _), [], rfl, by simp, by simp⟩
        · cases heq
          rename_i a len cap
          split at h
          · rename_i hb
            simp only [Option.bind_eq_some_iff, Option.map_eq_some_iff] at h
            obtain ⟨elems, he, rest, hr, _⟩ := h
            obtain ⟨h1, h2⟩ := mapM_at he
            simp at h1
            -- the elements, one by one
            have each : ∀ i : Nat, ∃ (zs : List Value) (xs : List V), i < len → w.cells? 0 (a.add (i * P.cellsOf e)) (P.cellsOf e) = some zs ∧ RepAll w xs zs ∧ Shape P f e xs := by
              intro i
              by_cases hi : i < len
              · have hx := h2 i i elems[i] (by simp [hi]) (by simp [h1, hi])
                rw [Option.bind_eq_some_iff] at hx
                obtain ⟨zs, hz, hd⟩ := hx
                obtain ⟨xs, h3, h4⟩ := trod_shape fuel e zs _ _ f hd hp
                exact ⟨zs, xs, fun _ => ⟨hz, h3, h4⟩⟩
              · exact ⟨[], [], fun h => absurd h hi⟩
            obtain ⟨Z, each⟩ := Classical.axiomOfChoice each
            obtain ⟨X, each⟩ := Classical.axiomOfChoice each
            have hag' : ∀ i, i < len → (V.ofCells (aggT P e) (X i)).cells = X i := fun i hi => by
              refine ofCells_cells fun ha => ?_
              exact plain_cells P hp (each i hi).2.2 ha
            refine ⟨_, .one ?_, (List.range len).map X, rfl, by simp; omega, fun x hx => ?_⟩
            · by_cases hl : len = 0
              · subst hl; exact .nilslice _ _ _ _
              · have hsp : a.spot = none := by
                  obtain ⟨hz, _⟩ := each 0 (by omega)
                  obtain ⟨c1, c2⟩ := cells_at hz
                  have := cell_lt (c2 0 (Z 0)[0] (by simp [c1]))
                  simpa [Addr.add] using this.2
                have ha : a = ⟨a.block, a.off, none⟩ := by cases a; simp at hsp; subst hsp; rfl
                have hr := Rep.slice (I := fun g _ => g < w.heap.size) (w := w) noPlaces (P.cellsOf e) (((List.range len).map X).map (V.ofCells (aggT P e))) a.block a.off cap (fun i j => ((Z i)[j]?).getD undef)
                  (by simp; omega) (fun x hx => by
                    simp at hx
                    obtain ⟨i, hi, rfl⟩ := hx
                    rw [hag' i hi, (each i hi).2.1.1]
                    exact (cells_at (each i hi).1).1)
                  (fun i j hi hj => by
                    simp at hi
                    obtain ⟨c1, c2⟩ := cells_at (each i hi).1
                    have := c2 j (Z i)[j] (by simp [c1, hj])
                    rw [ha] at this
                    rw [addr_add, addr_add] at this
                    have h5 := cell_lt this
                    refine ⟨h5.1, ?_⟩
                    rw [this]
                    simp [c1, hj])
                  (fun i j x c hx hc => by
                    have hi : i < len := by
                      have := (List.getElem?_eq_some_iff.1 hx).1
                      simpa using this
                    simp [hi] at hx
                    subst hx
                    rw [hag' i hi] at hc
                    obtain ⟨hz, hrep, _⟩ := each i hi
                    have hj : j < (Z i).length := by rw [← hrep.1]; exact (List.getElem?_eq_some_iff.1 hc).1
                    refine hrep.2 j c _ hc ?_
                    simp [hj])
                rw [ha]
                simpa using hr
            · simp at hx
              obtain ⟨i, hi, rfl⟩ := hx
              exact (each i hi).2.2
          · cases h
        · cases h
      | struct fs =>
        simp only [Bool.and_eq_true] at hp
        simp only [shape_struct hu]
        simp only [DataW.trod, hu] at h
        split at h
        · rename_i hl
          simp only [Option.map_eq_some_iff] at h
          obtain ⟨ys, hy, _⟩ := h
          have := fields_shape (fuel := fuel) (f := f) (fun t cs d ps h1 h2 _ => trod_shape fuel t cs d ps f h1 h2) fs.toList 0 cs ys (by rw [hl]; exact hp.2) hp.1 hy
          simpa using this
        · cases h
      | _ => simp at hp

end Go.Idl
