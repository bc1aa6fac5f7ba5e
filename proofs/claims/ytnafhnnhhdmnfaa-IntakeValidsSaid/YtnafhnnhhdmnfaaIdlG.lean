/-
  What the evaluator says of an operation holds in the model: structs and slices that are built, made, cut.
-/
import Derived.Test.YtnafhnnhhdmnfaaIdlF
import Derived.Laws.MakeOwn
namespace Go.Idl
set_option linter.all false
open Go.RowKit

variable {P : Program} {C : Ctx} {γ : Places} {I : Imm} {τ : Nat → V} {H : Heap} {w : World} {a : Act} {o : Oper} {v : V}

theorem fold_set (off : Nat) : ∀ (l : List Value) (s : Nat) (c : Array Value), off + s + l.length ≤ c.size →
    ((l.zipIdx s).foldl (fun (cs : Array Value) (x : Value × Nat) => cs.setIfInBounds (off + x.2) x.1) c).size = c.size ∧
    ∀ k, ((l.zipIdx s).foldl (fun (cs : Array Value) (x : Value × Nat) => cs.setIfInBounds (off + x.2) x.1) c)[k]? =
      if off + s ≤ k ∧ k < off + s + l.length then l[k - (off + s)]? else c[k]?
  | [], s, c, _ => by simp; intro k h1 h2; omega
  | x :: l, s, c, h => by
    have h' : off + (s + 1) + l.length ≤ (c.setIfInBounds (off + s) x).size := by simp at h ⊢; omega
    obtain ⟨i1, i2⟩ := fold_set off l (s + 1) (c.setIfInBounds (off + s) x) h'
    simp only [List.zipIdx_cons, List.foldl_cons]
    refine ⟨by rw [i1]; simp, fun k => ?_⟩
    rw [i2]
    simp only [List.length_cons] at h ⊢
    by_cases hk : off + s = k
    · subst hk
      rw [if_neg (by omega), if_pos (by omega), Nat.sub_self, Array.getElem?_setIfInBounds_self_of_lt (by omega)]
      rfl
    · rw [Array.getElem?_setIfInBounds_ne hk]
      by_cases hin : off + (s + 1) ≤ k ∧ k < off + (s + 1) + l.length
      · rw [if_pos hin, if_pos (by omega)]
        rw [show k - (off + s) = (k - (off + (s + 1))) + 1 from by omega]
        rfl
      · rw [if_neg hin, if_neg (by omega)]

/-- A row of cells, each by its ideal value. -/
def RepRow (I : Imm) (w : World) (γ : Places) (cells : List V) (c : Array Value) : Prop :=
  cells.length = c.size ∧ ∀ (j : Nat) (x : V), cells[j]? = some x → ∃ u, c[j]? = some u ∧ Rep I w γ x u

theorem fill_rep {place : Nat → Option (Nat × Nat)} {place' : Nat → Option (Nat × Nat)} (hpl : ∀ i p, place i = some p → place' i = some p) :
    ∀ (parts : List (Nat × V)) (parts' : List (Nat × Value)) (cells : List V) (c : Array Value) (r : List V),
      parts.length = parts'.length → (∀ (k : Nat) i x i' u, parts[k]? = some (i, x) → parts'[k]? = some (i', u) → i = i' ∧ Rep I w γ x u) → RepRow I w γ cells c →
      fillV place cells parts = some r → ∃ c', Instr.fill place' c parts' = some c' ∧ RepRow I w γ r c'
  | [], [], cells, c, r, _, _, hrow, h => by simp [fillV] at h; subst h; exact ⟨c, rfl, hrow⟩
  | [], _ :: _, _, _, _, hl, _, _, _ => by simp at hl
  | _ :: _, [], _, _, _, hl, _, _, _ => by simp at hl
  | (i, x) :: parts, (i', u) :: parts', cells, c, r, hl, hp, hrow, h => by
    obtain ⟨rfl, hr⟩ := hp 0 i x i' u rfl rfl
    simp only [fillV] at h
    split at h
    · cases h
    · rename_i off size hpi
      split at h
      · rename_i hc
        obtain ⟨hs, hlen, hle⟩ := hc
        obtain ⟨h1, h2, h3⟩ := solid_cells hr hs
        have hfold : off + 0 + u.cells.toList.length ≤ c.size := by simp; rw [h1, hlen, ← hrow.1]; exact hle
        obtain ⟨f1, f2⟩ := fold_set off u.cells.toList 0 c hfold
        have hrow' : RepRow I w γ (splice cells off x.cells) (u.cells.zipIdx.foldl (fun cs x => cs.setIfInBounds (off + x.2) x.1) c) := by
          have e : u.cells.zipIdx.foldl (fun (cs : Array Value) (x : Value × Nat) => cs.setIfInBounds (off + x.2) x.1) c =
              (u.cells.toList.zipIdx 0).foldl (fun (cs : Array Value) (x : Value × Nat) => cs.setIfInBounds (off + x.2) x.1) c := by
            rw [← Array.foldl_toList, Array.toList_zipIdx]
          refine ⟨by rw [splice_len (by omega), e, f1]; exact hrow.1, fun j y hj => ?_⟩
          rw [splice_get (by omega)] at hj
          rw [e, f2]
          by_cases hin : off ≤ j ∧ j < off + x.cells.length
          · rw [if_pos hin] at hj
            obtain ⟨z, hz, hrz⟩ := h3 _ _ hj
            refine ⟨z, ?_, hrz⟩
            rw [if_pos (by simp; rw [h1]; omega)]
            simpa using hz
          · rw [if_neg hin] at hj
            obtain ⟨z, hz, hrz⟩ := hrow.2 _ _ hj
            exact ⟨z, by rw [if_neg (by simp; rw [h1]; omega)]; exact hz, hrz⟩
        obtain ⟨c', hc', hrr⟩ := fill_rep hpl parts parts' _ _ r (by simpa using hl) (fun k i x i' u h1 h2 => hp (k + 1) i x i' u h1 h2) hrow' h
        refine ⟨c', ?_, hrr⟩
        simp only [Instr.fill, hpl _ _ hpi]
        rw [if_neg (by simp; rw [h1, hlen]; refine ⟨rfl, ?_⟩; rw [← hrow.1]; exact hle)]
        exact hc'
      · cases h

theorem run_places (fs : List Field) (hall : fs.all (fun f => (sizeT P f.type).isSome) = true) (w : World) :
    (fs.mapM fun f => (do pure (f.offset, ← sizeOf f.type) : Sem (Nat × Nat))).run P w = .ok (fs.map fun f => (f.offset, (sizeT P f.type).getD 0)) w := by
  induction fs with
  | nil => rfl
  | cons f fs ih =>
    simp only [List.all_cons, Bool.and_eq_true] at hall
    obtain ⟨n, hn⟩ := Option.isSome_iff_exists.1 hall.1
    rw [List.mapM_cons]
    simp only [Sem.run_bind, run_sizeT hn, Result.andThen_ok, Sem.run_pure, ih hall.2, List.map_cons, hn, Option.getD_some]

section
variable (hS : Sim C γ I τ H a.tmps w)
include hS

theorem parts_rep (parts : Array (Nat × Operand)) (k : Nat) (i : Nat) (x : V) (i' : Nat) (u : Value) (h1 : (parts.toList.map fun p => (p.1, opd τ p.2))[k]? = some (i, x))
    (h2 : ((parts.map fun p => (p.1, a.eval p.2)).toList)[k]? = some (i', u)) : i = i' ∧ Rep I w γ x u := by
  simp at h1 h2
  obtain ⟨q, y, hq, rfl, rfl⟩ := h1
  obtain ⟨q', y', hq', rfl, rfl⟩ := h2
  rw [hq] at hq'
  cases hq'
  exact ⟨rfl, rep_opd hS y⟩

omit hS in
theorem zero_row {z : Value} : RepRow I w γ (V.ofV z).cells z.cells :=
  ⟨ofV_len z, fun j x hj => ofV_cells z j x (ofV_len z).symm hj⟩

theorem lands_build {t : TypeId} {parts : Array (Nat × Operand)} (ho : o.op = .build t parts) (h : evBuild P t (parts.toList.map fun p => (p.1, opd τ p.2)) = some v) :
    Lands C P o a w τ H v := by
  unfold evBuild at h
  cases hz : zeroT P t with
  | none => simp [hz] at h
  | some z =>
    simp only [hz, Option.bind_some] at h
    have fin : ∀ {c' : Array Value} {r : List V}, (Instr.build t (parts.map fun p => (p.1, a.eval p.2))).run P w = .ok (.agg c') w → RepRow I w γ r c' → Lands C P o a w τ H (.agg r) := by
      intro c' r hrun hrow
      refine lands_value (u := .agg c') (w' := w) ?_ hS (.agg _ _ _ hrow.1 fun j x u hj hu => ?_)
      · simp [execOp, ho, hrun]
      · obtain ⟨u', hu', hr⟩ := hrow.2 j x hj
        rw [hu] at hu'
        cases hu'
        exact hr
    split at h
    · rename_i fs hfs
      split at h
      · rename_i hall
        simp at h
        obtain ⟨r, hr, rfl⟩ := h
        obtain ⟨c', hc', hrow⟩ := fill_rep (I := I) (w := w) (γ := γ) (place' := fun i => ((fs.toList.map fun f => (f.offset, (sizeT P f.type).getD 0)).toArray)[i]?) (fun i p hp => by
            cases hf : fs[i]? with
            | none => simp [hf] at hp
            | some f =>
              cases hn : sizeT P f.type with
              | none => simp [hf, hn] at hp
              | some n => simp [hf, hn] at hp; subst hp; simp [hf, hn])
          _ (parts.map fun p => (p.1, a.eval p.2)).toList _ _ r (by simp) (fun k i x i' u h1 h2 => parts_rep hS parts k i x i' u h1 h2) (zero_row (z := z)) hr
        refine fin ?_ hrow
        have hm := run_places fs.toList hall w
        simp only [Instr.build, Sem.run_bind, run_zeroT hz, Result.andThen_ok, run_underlying hfs]
        rw [Array.mapM_eq_mapM_toList]
        simp only [Functor.map, Sem.run_bind', hm, Result.andThen_ok]
        simp at hc'
        simp [hc']
      · cases h
    · rename_i n e hfs
      cases hs : sizeT P e with
      | none => simp [hs] at h
      | some m =>
        simp only [hs, Option.bind_some, Option.map_eq_some_iff] at h
        obtain ⟨r, hr, rfl⟩ := h
        obtain ⟨c', hc', hrow⟩ := fill_rep (I := I) (w := w) (γ := γ) (place' := fun i => some (i * m, m)) (fun i p hp => hp)
          _ (parts.map fun p => (p.1, a.eval p.2)).toList _ _ r (by simp) (fun k i x i' u h1 h2 => parts_rep hS parts k i x i' u h1 h2) (zero_row (z := z)) hr
        refine fin ?_ hrow
        simp at hc'
        simp [Instr.build, run_zeroT hz, run_underlying hfs, run_sizeT hs, hc']
    · cases h

omit hS in
theorem chunks_len (ag : Bool) (sz : Nat) : ∀ (n : Nat) (cells : List V), (chunks ag sz cells n).length = n
  | 0, _ => rfl
  | n + 1, cells => by simp [chunks, chunks_len ag sz n]

omit hS in
/-- The chunks' cells are the cells. -/
theorem chunks_cells (ag : Bool) (sz : Nat) (hsz : 0 < sz) (hag : ag = false → sz = 1) : ∀ (n : Nat) (cells : List V), cells.length = n * sz → (∀ c ∈ cells, ag = false → c.cells = [c]) →
    (∀ e ∈ chunks ag sz cells n, e.cells.length = sz) ∧ ∀ (i j : Nat) (e x : V), (chunks ag sz cells n)[i]? = some e → e.cells[j]? = some x → cells[i * sz + j]? = some x
  | 0, _, _, _ => by simp [chunks]
  | n + 1, cells, hl, hc => by
    have hl' : (cells.drop sz).length = n * sz := by
      simp
      rw [hl, Nat.add_mul]
      omega
    obtain ⟨i1, i2⟩ := chunks_cells ag sz hsz hag n (cells.drop sz) hl' (fun c hcm => hc c (List.mem_of_mem_drop hcm))
    have hge : sz ≤ cells.length := by rw [hl, Nat.add_mul]; omega
    have first : ((if ag = true then V.agg (cells.take sz) else cells.headD .any).cells.length = sz) ∧
        ∀ (j : Nat) (x : V), (if ag = true then V.agg (cells.take sz) else cells.headD .any).cells[j]? = some x → cells[j]? = some x := by
      cases ag with
      | true =>
        simp only [if_true, V.cells]
        refine ⟨by simp; omega, fun j x hx => ?_⟩
        rw [List.getElem?_take] at hx
        split at hx
        · exact hx
        · cases hx
      | false =>
        have h1 := hag rfl
        subst h1
        cases cells with
        | nil => simp at hge
        | cons c cs =>
          have hcc := hc c (by simp) rfl
          simp only [Bool.false_eq_true, if_false, List.headD_cons, hcc]
          refine ⟨rfl, fun j x hx => ?_⟩
          cases j with
          | zero => simpa using hx
          | succ j => simp at hx
    simp only [chunks]
    refine ⟨fun e he => ?_, fun i j e x he hx => ?_⟩
    · rcases List.mem_cons.1 he with rfl | he
      · exact first.1
      · exact i1 e he
    · cases i with
      | zero =>
        simp only [List.getElem?_cons_zero, Option.some.injEq] at he
        subst he
        simpa using first.2 j x hx
      | succ i =>
        have := i2 i j e x (by simpa using he) hx
        rw [List.getElem?_drop] at this
        rw [← this]
        congr 1
        rw [Nat.add_mul]
        omega

omit hS in
theorem cellOk_cells {c : V} (h : c.cellOk = true) : c.cells = [c] := by
  cases c <;> first | rfl | (simp [V.cellOk] at h)

omit hS in
theorem zeros_len (z : Value) (n : Nat) : (zeros z n).length = n * z.cells.size := by
  induction n with
  | zero => simp [zeros]
  | succ n ih => simp [zeros, ih, ofV_len, Nat.add_mul]; omega

omit hS in
theorem zeros_row (z : Value) (hz : 0 < z.cells.size) (n : Nat) : RepRow I w γ (zeros z n) ((Array.range (n * z.cells.size)).map (z.cells[· % z.cells.size]!)) := by
  refine ⟨by simp [zeros_len], ?_⟩
  have key : ∀ (n j : Nat) (x : V), (zeros z n)[j]? = some x → j < n * z.cells.size ∧ (V.ofV z).cells[j % z.cells.size]? = some x := by
    intro n
    induction n with
    | zero => intro j x h; simp [zeros] at h
    | succ n ih =>
      intro j x h
      simp only [zeros] at h
      by_cases hj : j < z.cells.size
      · rw [List.getElem?_append_left (by rw [ofV_len]; exact hj)] at h
        exact ⟨by rw [Nat.add_mul]; omega, by rw [Nat.mod_eq_of_lt hj]; exact h⟩
      · rw [List.getElem?_append_right (by rw [ofV_len]; omega), ofV_len] at h
        obtain ⟨h1, h2⟩ := ih _ _ h
        refine ⟨by rw [Nat.add_mul]; omega, ?_⟩
        rw [Nat.mod_eq_sub_mod (by omega)]
        exact h2
  intro j x hj
  obtain ⟨h1, h2⟩ := key n j x hj
  obtain ⟨u, hu, hr⟩ := ofV_cells (I := I) (w := w) (γ := γ) z _ x (ofV_len z).symm h2
  have hlt : j % z.cells.size < z.cells.size := Nat.mod_lt _ hz
  refine ⟨u, ?_, hr⟩
  simp [h1, getElem!_def, hu]

theorem lands_buildSlice {t : TypeId} {len : Nat} {parts : Array (Nat × Operand)} (ho : o.op = .buildSlice t len parts) {nid : Nat} {H0 : Heap} {δ : List (Nat × Obj)} (hH0 : H0 nid = .unborn → H nid = .unborn)
    {vs : List (Nat × V)} (hvl : vs.length = parts.size) (hvs : ∀ (k i : Nat) (x : V) (i' : Nat) (u : Value), vs[k]? = some (i, x) → ((parts.map fun p => (p.1, a.eval p.2)).toList)[k]? = some (i', u) → i = i' ∧ Rep I w γ x u)
    (h : evBuildSlice P nid H0 t len vs = some (v, δ)) : Lands C P o a w τ (putH H δ) v := by
  unfold evBuildSlice at h
  split at h
  · rename_i et h0 het
    split at h
    · rename_i sz z hsz hz
      split at h
      · rename_i hc
        obtain ⟨hzs, hpos, hle⟩ := hc
        cases hf : fillV (fun i => some (i * sz, sz)) (zeros z len) vs with
        | none => simp [hf] at h
        | some cs =>
          simp only [hf, Option.bind_some] at h
          split at h
          · rename_i hcell
            simp at h
            obtain ⟨rfl, rfl⟩ := h
            rw [putH_one]
            obtain ⟨c', hc', hrow⟩ := fill_rep (I := I) (w := w) (γ := γ) (place' := fun i => some (i * sz, sz)) (fun i p hp => hp)
              _ (parts.map fun p => (p.1, a.eval p.2)).toList _ _ cs (by simp [hvl]) hvs (zeros_row z (by omega) len) hf
            have hut : P.underlying t = some (.slice et) := by
              unfold elemT at het
              split at het
              · rename_i e he; cases het; exact he
              · cases het
            have hcs : cs.length = len * sz := by
              have : ∀ (pl : Nat → Option (Nat × Nat)) (parts : List (Nat × V)) (x y : List V), fillV pl x parts = some y → y.length = x.length := by
                intro pl parts
                induction parts with
                | nil => intro x y h; simp [fillV] at h; rw [h]
                | cons p ps ih =>
                  intro x y h
                  obtain ⟨i, u⟩ := p
                  simp only [fillV] at h
                  split at h
                  · cases h
                  · split at h
                    · rename_i hh
                      rw [ih _ _ h, splice_len (by omega)]
                    · cases h
              rw [this _ _ _ _ hf, zeros_len, hzs]
            have hag : aggT P et = false → sz = 1 ∧ cs.all V.cellOk = true := fun e => by
              rcases hcell with hh | hh
              · rw [hh] at e; cases e
              · exact hh
            obtain ⟨k1, k2⟩ := chunks_cells (aggT P et) sz hpos (fun e => (hag e).1) len cs hcs (fun c hcm e => cellOk_cells (by
              have := (hag e).2
              rw [List.all_eq_true] at this
              exact this c hcm))
            have hb := hS.born (nid := nid) (sz := sz) (es := chunks (aggT P et) sz cs len) (c := c') (t := et) (hH0 h0) k1 (fun i j e x he hx => hrow.2 _ _ (k2 i j e x he hx))
            refine lands_value (u := .slice (some ⟨w.heap.size, 0, none⟩) len len) ?_ hb.1 ?_
            · have h24 : ¬ (16777216 < len * sz) := by omega
              rw [hzs] at hc'
              simp at hc'
              by_cases hl0 : len = 0
              · subst hl0
                simp [Array.range_zero'] at hc'
                simp [execOp, ho, Instr.buildSlice, run_underlying hut, run_sizeT hsz, hc', newRow, Array.range_zero']
              · have hne : len * sz ≠ 0 := Nat.mul_ne_zero hl0 (by omega)
                simp [execOp, ho, Instr.buildSlice, run_underlying hut, run_sizeT hsz, h24, hne, run_zeroT hz, hzs, hc', newRow]
            · have := Rep.own (I := I) (w := w.alloc (.cells c' et)) (updP γ nid ⟨w.heap.size, 0, sz⟩) nid 0 len len ⟨w.heap.size, 0, sz⟩ c' et (by simp [updP]) (Nat.le_refl _) hb.2 (by
                have := hrow.1
                simp
                omega)
              simpa using this
          · cases h
      · cases h
    · cases h
  · cases h

theorem lands_makeSlice {t : TypeId} {x y : Operand} (ho : o.op = .makeSlice t x y) {nid : Nat} {ids : List Nat} {δ : List (Nat × Obj)}
    (h : evMakeSlice P nid (only ids H) t (opd τ x) (opd τ y) = some (v, δ)) : Lands C P o a w τ (putH H δ) v := by
  unfold evMakeSlice at h
  split at h
  · rename_i l c et h0 hl hc het
    split at h
    · rename_i i z hi hz
      split at h
      · rename_i hcond
        obtain ⟨hzs, hpos, hl0, hlc, hcb, hby⟩ := hcond
        simp only [Option.some.injEq, Prod.mk.injEq] at h
        obtain ⟨rfl, rfl⟩ := h
        rw [putH_one]
        have hx := rep_opd hS x
        have hy := rep_opd hS y
        rw [hl] at hx
        rw [hc] at hy
        have hx' := hx.sc_eq
        have hy' := hy.sc_eq
        have hut : P.underlying t = some (.slice et) := by
          unfold elemT at het
          split at het
          · rename_i e he; cases het; exact he
          · cases het
        have hz' : i.zero = some z := by simpa [zeroT, hi] using hz
        have hrun := run_make (P := P) w t et i z hut hi hz' .i64 .i64 l c hl0 hlc (by
          have h1 : (c.toNat : Int) = c := by omega
          have h2 := Int.ofNat_le.2 hby
          rw [Int.natCast_mul, h1] at h2
          exact h2) (by omega)
        have hcells : ∀ (k j : Nat) (e x : V), (List.replicate l.toNat (V.ofV z))[k]? = some e → e.cells[j]? = some x → ∃ u, (madeCells z.cells (c.toNat * i.size))[k * i.size + j]? = some u ∧ Rep I w γ x u := by
          intro k j e x he hx
          rw [List.getElem?_replicate] at he
          split at he
          · rename_i hk
            cases he
            have hjl : j < i.size := by
              have := (List.getElem?_eq_some_iff.1 hx).1
              rw [ofV_len, hzs] at this
              exact this
            obtain ⟨u, hu, hr⟩ := ofV_cells (I := I) (w := w) (γ := γ) z j x (ofV_len z).symm hx
            refine ⟨u, ?_, hr⟩
            have hlt : k * i.size + j < c.toNat * i.size := by
              have h1 : k + 1 ≤ c.toNat := by omega
              have h2 := Nat.mul_le_mul_right i.size h1
              rw [Nat.add_mul] at h2
              omega
            have hmod : (k * i.size + j) % i.size = j := by rw [Nat.mul_comm, Nat.mul_add_mod, Nat.mod_eq_of_lt hjl]
            simp [madeCells, hlt, hzs, hmod, getElem!_def, hu]
          · cases he
        have hb := hS.born (nid := nid) (sz := i.size) (es := List.replicate l.toNat (V.ofV z)) (c := madeCells z.cells (c.toNat * i.size)) (t := et) (only_unborn h0)
          (fun e he => by rw [(List.mem_replicate.1 he).2, ofV_len, hzs]) hcells
        refine lands_value (u := .slice (some ⟨w.heap.size, 0, none⟩) l.toNat c.toNat) ?_ hb.1 ?_
        · simp only [execOp, ho, hx', hy', Sem.run_bind, hrun, Result.andThen_ok, Sem.run_pure]
        · have := Rep.own (I := I) (w := w.alloc (.cells (madeCells z.cells (c.toNat * i.size)) et)) (updP γ nid ⟨w.heap.size, 0, i.size⟩) nid 0 l.toNat c.toNat ⟨w.heap.size, 0, i.size⟩ _ et (by simp [updP]) (by omega) hb.2 (by
            simp [size_madeCells])
          simpa using this
      · cases h
    · cases h
  · cases h

end
end Go.Idl
