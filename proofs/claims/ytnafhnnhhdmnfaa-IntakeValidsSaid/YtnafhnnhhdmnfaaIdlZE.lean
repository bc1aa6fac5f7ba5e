/-
  Two structs are compared: cell by cell.
-/
import Derived.Test.YtnafhnnhhdmnfaaIdlZD
namespace Go.Idl
set_option linter.all false

/-! ### Strings -/
theorem toList_loop (bs : ByteArray) : ∀ (m i : Nat) (r : List UInt8), bs.size - i = m → ByteArray.toList.loop bs i r = r.reverse ++ bs.data.toList.drop i
  | 0, i, r, h => by
    rw [ByteArray.toList.loop]
    have hs : ¬ i < bs.size := by omega
    have hl : bs.data.toList.length = bs.size := rfl
    rw [if_neg hs, List.drop_eq_nil_of_le (by omega)]
    simp
  | m + 1, i, r, h => by
    rw [ByteArray.toList.loop]
    have hs : i < bs.size := by omega
    rw [if_pos hs, toList_loop bs m (i + 1) _ (by omega)]
    have hl : i < bs.data.toList.length := hs
    rw [List.drop_eq_getElem_cons hl]
    have : bs.get! i = bs.data.toList[i] := by
      simp only [ByteArray.get!]
      rw [getElem!_pos bs.data i (by simpa using hl)]
      simp
    simp [this]
theorem toList_data (bs : ByteArray) : bs.toList = bs.data.toList := by
  unfold ByteArray.toList
  rw [toList_loop bs _ 0 [] rfl]
  simp
@[go_sem] theorem str_beq (a b : ByteArray) : (a.toList == b.toList) = decide (a = b) := by
  rw [toList_data, toList_data, Bool.eq_iff_iff]
  simp only [beq_iff_eq, decide_eq_true_eq]
  constructor
  · intro h
    cases a; cases b
    congr 1
    exact Array.toList_inj.1 h
  · rintro rfl; rfl

variable {P : Program}

theorem runPure_eqGuard {op : BinOp} {t : TypeId} {x y : Operand} {a b : Array Value} (h : P.eqGuardType P.depth t = false) : runPure P (eqGuard op t x y (.agg a) (.agg b)) = some () := by
  unfold eqGuard
  cases op <;> simp [program, runPure_bind, runPure, h, runPure_pure]

/-- Cells that are known, as values. -/
def eqV (ks : List CK) (cs ds : List V) : Option Bool := match concL cs, concL ds with
  | some xs, some ys => eqK ks xs ys
  | _, _ => none

theorem evBin_agg {f : Nat} {t : TypeId} {ks : List CK} (hk : cellKinds P f t = some ks) (ha : aggT P t = true) (hf : f ≤ 10000) (hg : P.eqGuardType P.depth t = false) {ρ : Operand → V} {x y : Operand} {t' ty : TypeId} {cs ds : List V} (hx : ρ x = .agg cs) (hy : ρ y = .agg ds)
    {b : Bool} (he : eqV ks cs ds = some b) (neg : Bool) :
    evPure P ρ (pu (.binOp (if neg then .neq else .eql) t x y t') ty) = some (.sc (.bool (b != neg)), []) := by
  unfold eqV at he
  split at he
  · rename_i xs ys h1 h2
    have := runPure_equalIn f 10000 t ks xs ys b hf hk he
    rw [ha] at this
    simp only [ofCells, if_true] at this
    have e : ∀ op, op = BinOp.eql ∨ op = .neq → runPure P (execOp (fun x => ((ρ x).conc).getD undef) (pu (.binOp op t x y t') ty)) = some (.value (.bool (if op = .neq then !b else b))) := by
      rintro op (rfl | rfl)
      · simp only [pu, execOp, hx, hy, V.conc, h1, h2, Option.map_some, Option.getD_some, runPure_bind, runPure_eqGuard hg, Option.bind_some, binOp, Op.equal, Op.maxDepth, this, runPure_pure]
        simp
      · simp only [pu, execOp, hx, hy, V.conc, h1, h2, Option.map_some, Option.getD_some, runPure_bind, runPure_eqGuard hg, Option.bind_some, binOp, Op.equal, Op.maxDepth, this, runPure_pure]
        simp
    have hall : ∀ op, (pu (.binOp op t x y t') ty).op.operands.all (fun x => (ρ x).conc.isSome) = true := fun op => by
      simp [pu, Op.operands, hx, hy, V.conc, h1, h2]
    cases neg with
    | true =>
      rw [evPure_of (v := .bool (!b)) (hall _) (by simp [pu]) (by simpa using e .neq (.inr rfl))]
      cases b <;> rfl
    | false =>
      rw [evPure_of (v := .bool b) (hall _) (by simp [pu]) (by simpa using e .eql (.inl rfl))]
      cases b <;> rfl
  · cases he

def eqInfo (P : Program) (t : TypeId) : Option (List CK) := if aggT P t = true ∧ P.eqGuardType P.depth t = false then cellKinds P 8 t else none
def eqO (neg : Bool) : Option Bool → Option (V × List (Nat × Obj))
  | some b => some (.sc (.bool (b != neg)), [])
  | none => none
@[congr] theorem eqO_congr {neg : Bool} {x x' : Option Bool} (h : x = x') : eqO neg x = eqO neg x' := by rw [h]
@[go_sem ↓] theorem eqO_t (b : Bool) : eqO true (some b) = some (.sc (.bool (!b)), []) := by cases b <;> rfl
@[go_sem ↓] theorem eqO_f (b : Bool) : eqO false (some b) = some (.sc (.bool b), []) := by cases b <;> rfl
def eqS (P : Program) (ρ : Operand → V) (o : Oper) (neg : Bool) : Option Bool → Option (V × List (Nat × Obj))
  | some b => eqO neg (some b)
  | none => evPure P ρ o
@[congr] theorem eqS_congr {ρ : Operand → V} {o : Oper} {neg : Bool} {x x' : Option Bool} (h : x = x') : eqS P ρ o neg x = eqS P ρ o neg x' := by rw [h]
@[go_sem ↓] theorem eqS_some (ρ : Operand → V) (o : Oper) (neg : Bool) (b : Bool) : eqS P ρ o neg (some b) = eqO neg (some b) := nd rfl

theorem bin_agg {t : TypeId} {ks : List CK} (hk : eqInfo P t = some ks) {ρ : Operand → V} {x y : Operand} {t' ty : TypeId} {cs ds : List V} (hx : ρ x = .agg cs) (hy : ρ y = .agg ds) (isB neg : Bool) :
    evBin P ρ (pu (.binOp (if neg then .neq else .eql) t x y t') ty) (if neg then .neq else .eql) isB (.agg cs) (.agg ds) = eqS P ρ (pu (.binOp (if neg then .neq else .eql) t x y t') ty) neg (eqV ks cs ds) := by
  unfold eqInfo at hk
  split at hk
  · rename_i hc
    cases he : eqV ks cs ds with
    | none => rfl
    | some b => exact evBin_agg hk hc.1 (by omega) hc.2 hx hy he neg
  · cases hk
@[go_sem] theorem bin_agg_eql {t : TypeId} {ks : List CK} {cs ds : List V} {ρ : Operand → V} {x y : Operand} (hk : eqInfo P t = some ks) (hx : ρ x = .agg cs) (hy : ρ y = .agg ds) (t' ty : TypeId) (isB : Bool) :
    evBin P ρ (pu (.binOp .eql t x y t') ty) .eql isB (.agg cs) (.agg ds) = eqS P ρ (pu (.binOp .eql t x y t') ty) false (eqV ks cs ds) := bin_agg hk hx hy isB false
@[go_sem] theorem bin_agg_neq {t : TypeId} {ks : List CK} {cs ds : List V} {ρ : Operand → V} {x y : Operand} (hk : eqInfo P t = some ks) (hx : ρ x = .agg cs) (hy : ρ y = .agg ds) (t' ty : TypeId) (isB : Bool) :
    evBin P ρ (pu (.binOp .neq t x y t') ty) .neq isB (.agg cs) (.agg ds) = eqS P ρ (pu (.binOp .neq t x y t') ty) true (eqV ks cs ds) := bin_agg hk hx hy isB true
@[go_sem ↓] theorem opd_tmp (τ : Nat → V) (a : Nat) : opd τ (.tmp a) = τ a := nd rfl
@[go_sem ↓] theorem opd_const (τ : Nat → V) (v : Value) : opd τ (.const v) = V.ofV v := nd rfl
@[go_sem ↓] theorem ofV_agg (cs : Array Value) : V.ofV (.agg cs) = .agg (cs.toList.map .sc) := nd rfl
@[go_sem ↓] theorem eqV_nil : eqV [] [] [] = some true := nd rfl
@[go_sem ↓] theorem andO_some (a b : Bool) : andO (some a) (some b) = some (a && b) := nd rfl
theorem eqV_cons (c : CK) (ks : List CK) (x y : Value) (cs ds : List V) : eqV (c :: ks) (.sc x :: cs) (.sc y :: ds) = andO (eqC c x y) (eqV ks cs ds) := by
  unfold eqV
  simp only [concL, V.conc1]
  cases concL cs <;> cases concL ds <;> cases h : eqC c x y <;> simp [eqK, h, andO]
@[go_sem ↓] theorem eqV_int (k : IntKind) (ks : List CK) (a b : Int) (cs ds : List V) : eqV (.i k :: ks) (.sc (.int k a) :: cs) (.sc (.int k b) :: ds) = andO (some (a == b)) (eqV ks cs ds) := by rw [eqV_cons]; simp [eqC]
@[go_sem ↓] theorem eqV_bool (ks : List CK) (a b : Bool) (cs ds : List V) : eqV (.b :: ks) (.sc (.bool a) :: cs) (.sc (.bool b) :: ds) = andO (some (a == b)) (eqV ks cs ds) := by rw [eqV_cons]; simp [eqC]
@[go_sem ↓] theorem eqV_str (ks : List CK) (a b : ByteArray) (cs ds : List V) : eqV (.s :: ks) (.sc (.string a) :: cs) (.sc (.string b) :: ds) = andO (some (decide (a = b))) (eqV ks cs ds) := by
  rw [eqV_cons]
  have : (a == b) = decide (a = b) := by
    cases a with | mk x =>
    cases b with | mk y =>
    have e : ((⟨x⟩ : ByteArray) == ⟨y⟩) = (x == y) := rfl
    rw [e, Bool.eq_iff_iff]
    simp
  simp [eqC, this]
attribute [go_sem] Bool.and_true decide_true beq_self_eq_true

end Go.Idl
