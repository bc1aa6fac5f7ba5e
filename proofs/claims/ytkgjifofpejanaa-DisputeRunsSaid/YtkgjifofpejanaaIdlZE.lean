/-
  Two structs are compared: cell by cell.
-/
import Derived.Test.YtkgjifofpejanaaIdlZD
namespace Go.Idl
set_option linter.all false

/-! ### Strings -/
theorem toList_loop (bs : ByteArray) : ∀ (m i : Nat) (r : List UInt8), bs.size - i = m → ByteArray.toList.loop bs i r = r.reverse ++ bs.data.toList.drop i
  | 0, i, r, h => by
    rw [ByteArray.toList.loop]
    have hs : ¬ i < bs.size := by omega
    have hl : bs.data.toList.length = bs.size := rfl
    rw [if_neg hs, List.drop_eq_nil_of_le (by omega)]
    simp
  | m + 1, i, r, h => by
    rw [ByteArray.toList.loop]
    have hs : i < bs.size := by omega
    rw [if_pos hs, toList_loop bs m (i + 1) _ (by omega)]
    have hl : i < bs.data.toList.length := hs
    rw [List.drop_eq_getElem_cons hl]
    have : bs.get! i = bs.data.toList[i] := by
      simp only [ByteArray.get!]
      rw [getElem!_pos bs.data i (by simpa using hl)]
      simp
    simp [this]
theorem toList_data (bs : ByteArray) : bs.toList = bs.data.toList := by
  unfold ByteArray.toList
  rw [toList_loop bs _ 0 [] rfl]
  simp
@[go_sem] theorem str_beq (a b : ByteArray) : (a.toList == b.toList) = decide (a = b) := by
  rw [toList_data, toList_data, Bool.eq_iff_iff]
  simp only [beq_iff_eq, decide_eq_true_eq]
  constructor
  · intro h
    cases a; cases b
    congr 1
    exact Array.toList_inj.1 h
  · rintro rfl; rfl

inductive CK where
  | b
  | i (k : IntKind)
  | s
deriving DecidableEq

def fieldKinds (P : Program) (ck : TypeId → Option (List CK)) : Nat → List Field → Option (List CK)
  | _, [] => some []
  | o, fd :: fs => match ck fd.type, fieldKinds P ck (o + P.cellsOf fd.type) fs with
    | some ks, some ls => if fd.offset = o ∧ fd.name ≠ "_" ∧ sizeT P fd.type = some ks.length ∧ 0 < ks.length then some (ks ++ ls) else none
    | _, _ => none
/-- The kinds of a type's cells, where its values are compared cell by cell. -/
def cellKinds (P : Program) : Nat → TypeId → Option (List CK)
  | 0, _ => none
  | f + 1, t => match P.underlying t with
    | some .bool => some [.b]
    | some (.int k) => some [.i k]
    | some .string => some [.s]
    | some (.struct fs) => if P.stoodInHeld t = false then fieldKinds P (cellKinds P f) 0 fs.toList else none
    | _ => none

def eqC : CK → Value → Value → Option Bool
  | .b, .bool a, .bool b => some (a == b)
  | .i k, .int k1 a, .int k2 b => if k1 = k ∧ k2 = k then some (a == b) else none
  | .s, .string a, .string b => some (a == b)
  | _, _, _ => none
def andO : Option Bool → Option Bool → Option Bool
  | some a, some b => some (a && b)
  | _, _ => none
def eqK : List CK → List Value → List Value → Option Bool
  | [], [], [] => some true
  | c :: ks, x :: xs, y :: ys => andO (eqC c x y) (eqK ks xs ys)
  | _, _, _ => none

theorem eqK_len : ∀ {ks : List CK} {xs ys : List Value} {b : Bool}, eqK ks xs ys = some b → xs.length = ks.length ∧ ys.length = ks.length
  | [], [], [], _, _ => ⟨rfl, rfl⟩
  | c :: ks, x :: xs, y :: ys, b, h => by
    simp only [eqK] at h
    cases h2 : eqK ks xs ys with
    | none => rw [h2] at h; cases h1 : eqC c x y <;> simp [h1, andO] at h
    | some b' => have := eqK_len h2; simp [this]
  | [], _ :: _, _, _, h => by simp [eqK] at h
  | [], [], _ :: _, _, h => by simp [eqK] at h
  | _ :: _, [], _, _, h => by simp [eqK] at h
  | _ :: _, _ :: _, [], _, h => by simp [eqK] at h

theorem eqK_app : ∀ {ks ls : List CK} {xs ys : List Value} {b : Bool}, eqK (ks ++ ls) xs ys = some b →
    ∃ b1 b2, eqK ks (xs.take ks.length) (ys.take ks.length) = some b1 ∧ eqK ls (xs.drop ks.length) (ys.drop ks.length) = some b2 ∧ b = (b1 && b2)
  | [], ls, xs, ys, b, h => ⟨true, b, rfl, by simpa using h, by simp⟩
  | c :: ks, ls, x :: xs, y :: ys, b, h => by
    simp only [List.cons_append, eqK] at h
    cases h1 : eqC c x y with
    | none => simp [h1, andO] at h
    | some b0 =>
      cases h2 : eqK (ks ++ ls) xs ys with
      | none => simp [h1, h2, andO] at h
      | some b' =>
        obtain ⟨b1, b2, h3, h4, rfl⟩ := eqK_app h2
        simp only [h1, h2, andO, Option.some.injEq] at h
        subst h
        exact ⟨b0 && b1, b2, by simp [eqK, h1, h3, andO], by simpa using h4, by simp [Bool.and_assoc]⟩
  | _ :: _, _, [], _, _, h => by simp [eqK] at h
  | _ :: _, _, _ :: _, [], _, h => by simp [eqK] at h

variable {P : Program}

theorem runPure_sizeT {t : TypeId} {n : Nat} (h : sizeT P t = some n) : runPure P (sizeOf t) = some n := by
  unfold sizeT at h
  cases hi : P.info? t with
  | none => simp [hi] at h
  | some i =>
    simp [hi] at h
    simp [sizeOf, typeInfo, program, runPure_bind, runPure, hi, h, runPure_pure]
theorem runPure_isAgg {t : TypeId} {d : TypeDesc} (h : P.underlying t = some d) : runPure P (isAgg t) = some (aggT P t) := by
  unfold isAgg aggT
  rw [runPure_bind, runPure_underlying h, h]
  cases d <;> rfl

/-- The value that so many cells make. -/
def ofCells (ag : Bool) (cs : List Value) : Value := if ag then .agg cs.toArray else cs.headD undef

theorem runPure_part {t : TypeId} {d : TypeDesc} {n o : Nat} {xs : Array Value} (h : P.underlying t = some d) (hs : sizeT P t = some n) (hle : o + n ≤ xs.size) (h1 : aggT P t = false → n = 1) :
    runPure P (part t xs o) = some (ofCells (aggT P t) ((xs.toList.drop o).take n)) := by
  unfold part ofCells
  rw [runPure_bind, runPure_isAgg h, Option.bind_some]
  cases ha : aggT P t with
  | true =>
    simp only [if_true, runPure_bind, runPure_sizeT hs, Option.bind_some, runPure_pure]
    congr 2
    apply Array.ext'
    rw [Array.toList_extract]
    simp [List.extract_eq_take_drop]
  | false =>
    have := h1 ha
    subst this
    simp only [Bool.false_eq_true, if_false]
    have hlt : o < xs.size := by omega
    have : xs[o]? = some xs[o] := by simp [hlt]
    rw [this]
    simp only [runPure_pure]
    congr 1
    have e : List.drop o xs.toList = xs[o] :: List.drop (o + 1) xs.toList := by
      rw [List.drop_eq_getElem_cons (by simpa using hlt)]; simp
    rw [e]
    rfl

theorem cellKinds_one {f : Nat} {t : TypeId} {ks : List CK} (h : cellKinds P f t = some ks) : (∃ d, P.underlying t = some d) ∧ (aggT P t = false → ks.length = 1) := by
  cases f with
  | zero => simp [cellKinds] at h
  | succ f =>
    simp only [cellKinds] at h
    unfold aggT
    cases hu : P.underlying t with
    | none => rw [hu] at h; simp at h
    | some d =>
      rw [hu] at h
      refine ⟨⟨d, rfl⟩, ?_⟩
      cases d <;> simp at h ⊢ <;> simp [← h]

theorem runPure_equalIn : ∀ (f : Nat) (d : Nat) (t : TypeId) (ks : List CK) (xs ys : List Value) (b : Bool), f ≤ d → cellKinds P f t = some ks → eqK ks xs ys = some b →
    runPure P (Op.equalIn d t (ofCells (aggT P t) xs) (ofCells (aggT P t) ys)) = some b
  | 0, _, _, _, _, _, _, _, h, _ => by simp [cellKinds] at h
  | f + 1, 0, _, _, _, _, _, hd, _, _ => by omega
  | f + 1, d + 1, t, ks, xs, ys, b, hd, hk, he => by
    simp only [cellKinds] at hk
    cases hu : P.underlying t with
    | none => rw [hu] at hk; simp at hk
    | some ty =>
      rw [hu] at hk
      have one : ∀ c, ks = [c] → aggT P t = false → ∃ x y, xs = [x] ∧ ys = [y] ∧ eqC c x y = some b := by
        rintro c rfl _
        obtain ⟨h1, h2⟩ := eqK_len he
        match xs, ys, h1, h2 with
        | [x], [y], _, _ =>
          refine ⟨x, y, rfl, rfl, ?_⟩
          simp only [eqK] at he
          cases h : eqC c x y with
          | none => simp [h, andO] at he
          | some b' => simp [h, andO] at he; rw [he]
      cases ty with
      | bool =>
        simp at hk
        have ha : aggT P t = false := by simp [aggT, hu]
        obtain ⟨x, y, rfl, rfl, h⟩ := one _ hk.symm ha
        rw [ha]
        unfold eqC at h
        split at h <;> simp_all [ofCells, Op.equalIn, runPure_bind, runPure_underlying hu, runPure_pure]
      | int k =>
        simp at hk
        have ha : aggT P t = false := by simp [aggT, hu]
        obtain ⟨x, y, rfl, rfl, h⟩ := one _ hk.symm ha
        rw [ha]
        unfold eqC at h
        split at h <;> simp_all [ofCells, Op.equalIn, runPure_bind, runPure_underlying hu, runPure_pure]
      | string =>
        simp at hk
        have ha : aggT P t = false := by simp [aggT, hu]
        obtain ⟨x, y, rfl, rfl, h⟩ := one _ hk.symm ha
        rw [ha]
        unfold eqC at h
        split at h <;> simp_all [ofCells, Op.equalIn, runPure_bind, runPure_underlying hu, runPure_pure]
      | struct fs =>
        simp only at hk
        split at hk
        · rename_i hs
          have ha : aggT P t = true := by simp [aggT, hu]
          rw [ha]
          simp only [ofCells, if_true]
          simp only [Op.equalIn, runPure_bind, runPure_underlying hu, Option.bind_some]
          simp only [program, runPure, Option.bind_some, hs]
          simp only [Bool.false_eq_true, if_false, runPure_bind, runPure_pure, Option.bind_some, ne_eq]
          rw [← Array.forIn_toList]
          -- over the fields
          have key : ∀ (l : List Field) (o : Nat) (ls : List CK) (b : Bool), fieldKinds P (cellKinds P f) o l = some ls → eqK ls (xs.drop o) (ys.drop o) = some b →
              runPure P (forIn l ((none : Option Bool), ()) fun f __s =>
                if ¬f.name = "_" then do
                  let __do_lift ← part f.type xs.toArray f.offset
                  let __do_lift_1 ← part f.type ys.toArray f.offset
                  let __do_lift ← Op.equalIn d f.type __do_lift __do_lift_1
                  if (!__do_lift) = true then pure (ForInStep.done (some false, ())) else pure (ForInStep.yield (none, ()))
                else pure (ForInStep.yield (none, ()))) = some (if b then (none, ()) else (some false, ())) := by
            intro l
            induction l with
            | nil =>
              intro o ls b h1 h2
              simp [fieldKinds] at h1
              subst h1
              obtain ⟨g1, g2⟩ := eqK_len h2
              have e1 : xs.drop o = [] := List.eq_nil_of_length_eq_zero g1
              have e2 : ys.drop o = [] := List.eq_nil_of_length_eq_zero g2
              rw [e1, e2] at h2
              simp [eqK] at h2
              subst h2
              rfl
            | cons fd l ih =>
              intro o ls b h1 h2
              simp only [fieldKinds] at h1
              split at h1
              · rename_i k1 k2 hk1 hk2
                split at h1
                · rename_i hc
                  cases h1
                  obtain ⟨b1, b2, h3, h4, rfl⟩ := eqK_app h2
                  rw [List.drop_drop, List.drop_drop] at h4
                  obtain ⟨⟨dd, hdd⟩, hone⟩ := cellKinds_one hk1
                  have hcs : P.cellsOf fd.type = k1.length := by
                    have := hc.2.2.1
                    unfold sizeT at this
                    unfold Program.cellsOf
                    rw [this]
                    rfl
                  rw [hcs] at hk2
                  obtain ⟨g1, g2⟩ := eqK_len h3
                  have hz := hc.2.2.2
                  have q1 : o + k1.length ≤ xs.length := by simp at g1; omega
                  have q2 : o + k1.length ≤ ys.length := by simp at g2; omega
                  rw [List.forIn_cons]
                  simp only [if_pos hc.2.1, runPure_bind, hc.1]
                  rw [runPure_part (xs := xs.toArray) hdd hc.2.2.1 (by simpa using q1) hone, runPure_part (xs := ys.toArray) hdd hc.2.2.1 (by simpa using q2) hone]
                  simp only [Option.bind_some]
                  rw [runPure_equalIn f d fd.type k1 _ _ b1 (by omega) hk1 h3]
                  simp only [Option.bind_some]
                  cases b1 with
                  | false => simp [runPure_pure]
                  | true =>
                    simp only [Bool.not_true, Bool.false_eq_true, if_false, runPure_pure, Option.bind_some, Bool.true_and]
                    exact ih _ k2 b2 hk2 h4
                · cases h1
              · cases h1
          rw [key fs.toList 0 ks b hk (by simpa using he)]
          cases b <;> rfl
        · cases hk
      | _ => simp at hk

theorem runPure_eqGuard {op : BinOp} {t : TypeId} {x y : Operand} {a b : Array Value} (h : P.eqGuardType P.depth t = false) : runPure P (eqGuard op t x y (.agg a) (.agg b)) = some () := by
  unfold eqGuard
  cases op <;> simp [program, runPure_bind, runPure, h, runPure_pure]

/-- Cells that are known, as values. -/
def eqV (ks : List CK) (cs ds : List V) : Option Bool := match concL cs, concL ds with
  | some xs, some ys => eqK ks xs ys
  | _, _ => none

theorem evBin_agg {f : Nat} {t : TypeId} {ks : List CK} (hk : cellKinds P f t = some ks) (ha : aggT P t = true) (hf : f ≤ 10000) (hg : P.eqGuardType P.depth t = false) {ρ : Operand → V} {x y : Operand} {t' ty : TypeId} {cs ds : List V} (hx : ρ x = .agg cs) (hy : ρ y = .agg ds)
    {b : Bool} (he : eqV ks cs ds = some b) (neg : Bool) :
    evPure P ρ (pu (.binOp (if neg then .neq else .eql) t x y t') ty) = some (.sc (.bool (b != neg)), []) := by
  unfold eqV at he
  split at he
  · rename_i xs ys h1 h2
    have := runPure_equalIn f 10000 t ks xs ys b hf hk he
    rw [ha] at this
    simp only [ofCells, if_true] at this
    have e : ∀ op, op = BinOp.eql ∨ op = .neq → runPure P (execOp (fun x => ((ρ x).conc).getD undef) (pu (.binOp op t x y t') ty)) = some (.value (.bool (if op = .neq then !b else b))) := by
      rintro op (rfl | rfl)
      · simp only [pu, execOp, hx, hy, V.conc, h1, h2, Option.map_some, Option.getD_some, runPure_bind, runPure_eqGuard hg, Option.bind_some, binOp, Op.equal, Op.maxDepth, this, runPure_pure]
        simp
      · simp only [pu, execOp, hx, hy, V.conc, h1, h2, Option.map_some, Option.getD_some, runPure_bind, runPure_eqGuard hg, Option.bind_some, binOp, Op.equal, Op.maxDepth, this, runPure_pure]
        simp
    have hall : ∀ op, (pu (.binOp op t x y t') ty).op.operands.all (fun x => (ρ x).conc.isSome) = true := fun op => by
      simp [pu, Op.operands, hx, hy, V.conc, h1, h2]
    cases neg with
    | true =>
      rw [evPure_of (v := .bool (!b)) (hall _) (by simp [pu]) (by simpa using e .neq (.inr rfl))]
      cases b <;> rfl
    | false =>
      rw [evPure_of (v := .bool b) (hall _) (by simp [pu]) (by simpa using e .eql (.inl rfl))]
      cases b <;> rfl
  · cases he

def eqInfo (P : Program) (t : TypeId) : Option (List CK) := if aggT P t = true ∧ P.eqGuardType P.depth t = false then cellKinds P 8 t else none
def eqO (neg : Bool) : Option Bool → Option (V × List (Nat × Obj))
  | some b => some (.sc (.bool (b != neg)), [])
  | none => none
@[congr] theorem eqO_congr {neg : Bool} {x x' : Option Bool} (h : x = x') : eqO neg x = eqO neg x' := by rw [h]
@[go_sem ↓] theorem eqO_t (b : Bool) : eqO true (some b) = some (.sc (.bool (!b)), []) := by cases b <;> rfl
@[go_sem ↓] theorem eqO_f (b : Bool) : eqO false (some b) = some (.sc (.bool b), []) := by cases b <;> rfl
def eqS (P : Program) (ρ : Operand → V) (o : Oper) (neg : Bool) : Option Bool → Option (V × List (Nat × Obj))
  | some b => eqO neg (some b)
  | none => evPure P ρ o
@[congr] theorem eqS_congr {ρ : Operand → V} {o : Oper} {neg : Bool} {x x' : Option Bool} (h : x = x') : eqS P ρ o neg x = eqS P ρ o neg x' := by rw [h]
@[go_sem ↓] theorem eqS_some (ρ : Operand → V) (o : Oper) (neg : Bool) (b : Bool) : eqS P ρ o neg (some b) = eqO neg (some b) := nd rfl

theorem bin_agg {t : TypeId} {ks : List CK} (hk : eqInfo P t = some ks) {ρ : Operand → V} {x y : Operand} {t' ty : TypeId} {cs ds : List V} (hx : ρ x = .agg cs) (hy : ρ y = .agg ds) (isB neg : Bool) :
    evBin P ρ (pu (.binOp (if neg then .neq else .eql) t x y t') ty) (if neg then .neq else .eql) isB (.agg cs) (.agg ds) = eqS P ρ (pu (.binOp (if neg then .neq else .eql) t x y t') ty) neg (eqV ks cs ds) := by
  unfold eqInfo at hk
  split at hk
  · rename_i hc
    cases he : eqV ks cs ds with
    | none => rfl
    | some b => exact evBin_agg hk hc.1 (by omega) hc.2 hx hy he neg
  · cases hk
@[go_sem] theorem bin_agg_eql {t : TypeId} {ks : List CK} {cs ds : List V} {ρ : Operand → V} {x y : Operand} (hk : eqInfo P t = some ks) (hx : ρ x = .agg cs) (hy : ρ y = .agg ds) (t' ty : TypeId) (isB : Bool) :
    evBin P ρ (pu (.binOp .eql t x y t') ty) .eql isB (.agg cs) (.agg ds) = eqS P ρ (pu (.binOp .eql t x y t') ty) false (eqV ks cs ds) := bin_agg hk hx hy isB false
@[go_sem] theorem bin_agg_neq {t : TypeId} {ks : List CK} {cs ds : List V} {ρ : Operand → V} {x y : Operand} (hk : eqInfo P t = some ks) (hx : ρ x = .agg cs) (hy : ρ y = .agg ds) (t' ty : TypeId) (isB : Bool) :
    evBin P ρ (pu (.binOp .neq t x y t') ty) .neq isB (.agg cs) (.agg ds) = eqS P ρ (pu (.binOp .neq t x y t') ty) true (eqV ks cs ds) := bin_agg hk hx hy isB true
@[go_sem ↓] theorem opd_tmp (τ : Nat → V) (a : Nat) : opd τ (.tmp a) = τ a := nd rfl
@[go_sem ↓] theorem opd_const (τ : Nat → V) (v : Value) : opd τ (.const v) = V.ofV v := nd rfl
@[go_sem ↓] theorem ofV_agg (cs : Array Value) : V.ofV (.agg cs) = .agg (cs.toList.map .sc) := nd rfl
@[go_sem ↓] theorem eqV_nil : eqV [] [] [] = some true := nd rfl
@[go_sem ↓] theorem andO_some (a b : Bool) : andO (some a) (some b) = some (a && b) := nd rfl
theorem eqV_cons (c : CK) (ks : List CK) (x y : Value) (cs ds : List V) : eqV (c :: ks) (.sc x :: cs) (.sc y :: ds) = andO (eqC c x y) (eqV ks cs ds) := by
  unfold eqV
  simp only [concL, V.conc1]
  cases concL cs <;> cases concL ds <;> cases h : eqC c x y <;> simp [eqK, h, andO]
@[go_sem ↓] theorem eqV_int (k : IntKind) (ks : List CK) (a b : Int) (cs ds : List V) : eqV (.i k :: ks) (.sc (.int k a) :: cs) (.sc (.int k b) :: ds) = andO (some (a == b)) (eqV ks cs ds) := by rw [eqV_cons]; simp [eqC]
@[go_sem ↓] theorem eqV_bool (ks : List CK) (a b : Bool) (cs ds : List V) : eqV (.b :: ks) (.sc (.bool a) :: cs) (.sc (.bool b) :: ds) = andO (some (a == b)) (eqV ks cs ds) := by rw [eqV_cons]; simp [eqC]
@[go_sem ↓] theorem eqV_str (ks : List CK) (a b : ByteArray) (cs ds : List V) : eqV (.s :: ks) (.sc (.string a) :: cs) (.sc (.string b) :: ds) = andO (some (decide (a = b))) (eqV ks cs ds) := by
  rw [eqV_cons]
  have : (a == b) = decide (a = b) := by
    cases a with | mk x =>
    cases b with | mk y =>
    have e : ((⟨x⟩ : ByteArray) == ⟨y⟩) = (x == y) := rfl
    rw [e, Bool.eq_iff_iff]
    simp
  simp [eqC, this]
attribute [go_sem] Bool.and_true decide_true beq_self_eq_true

end Go.Idl
