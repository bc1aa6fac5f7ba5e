/-
  Maps over data: keys and what they hold, in the order in which they came.
-/
import Derived.Test.YtnafhnnhhdmnfaaIdlZI
namespace Go.Idl
set_option linter.all false
open Go.RowKit

/-- Data that are keys of maps. -/
class KeyC (κ : Type) where
  deq : DecidableEq κ
  ag : Bool
  ks : List CK
  kval : κ → Value
  kdec : Value → Option κ
  kdec_val : ∀ k, kdec (kval k) = some k
  kval_dec : ∀ v k, kdec v = some k → v = kval k
  okk : ∀ k, okKey ag (kval k) = true
  len : ∀ k, (kval k).cells.size = ks.length
  eqk : ∀ a b, eqK ks (kval a).cells.toList (kval b).cells.toList = some (decide (a = b))
instance (priority := low) instKeyDeq (κ : Type) [KeyC κ] : DecidableEq κ := KeyC.deq

theorem ba_beq (a b : ByteArray) : (a == b) = decide (a = b) := by
  rw [Bool.eq_iff_iff]
  cases a with | mk x =>
  cases b with | mk y =>
    have e : ((⟨x⟩ : ByteArray) == ⟨y⟩) = (x == y) := rfl
    rw [e]
    simp
def decKey : List Value → Option KeyD
  | [.string x, .string y, .int .i64 n] => some ⟨x, y, n⟩
  | _ => none
def decKey' : Value → Option KeyD
  | .agg a => decKey a.toList
  | _ => none
instance : KeyC ByteArray where
  deq := inferInstance
  ag := false
  ks := [.s]
  kval := .string
  kdec := fun | .string s => some s | _ => none
  kdec_val := fun _ => rfl
  kval_dec := fun v k h => by
    split at h
    · cases h; rfl
    · cases h
  okk := fun _ => rfl
  len := fun _ => rfl
  eqk := fun a b => by
    show andO (some (a == b)) (some true) = _
    simp only [andO, Bool.and_true, Option.some.injEq, ba_beq]
instance : KeyC KeyD where
  deq := fun a b => if h : a.station = b.station ∧ a.txn = b.txn ∧ a.seq = b.seq then .isTrue (by cases a; cases b; simp at h; simp [h]) else .isFalse fun e => h (by rw [e]; exact ⟨rfl, rfl, rfl⟩)
  ag := true
  ks := [.s, .s, .i .i64]
  kval := fun k => .agg #[.string k.station, .string k.txn, .int .i64 k.seq]
  kdec := decKey'
  kdec_val := fun _ => rfl
  kval_dec := fun v k h => by
    unfold decKey' at h
    split at h
    · rename_i a
      unfold decKey at h
      split at h
      · rename_i x y n hl
        cases h
        rw [← Array.toArray_toList (xs := a), hl]
      · cases h
    · cases h
  okk := fun _ => rfl
  len := fun _ => rfl
  eqk := fun a b => by
    show andO (some (a.station == b.station)) (andO (some (a.txn == b.txn)) (andO (if IntKind.i64 = IntKind.i64 ∧ IntKind.i64 = IntKind.i64 then some (a.seq == b.seq) else none) (some true))) = _
    simp only [andO, Bool.and_true, and_self, if_true, Option.some.injEq, ba_beq]
    rw [Bool.eq_iff_iff]
    simp only [Bool.and_eq_true, beq_iff_eq, decide_eq_true_eq]
    constructor
    · rintro ⟨h1, h2, h3⟩; cases a; cases b; simp at h1 h2 h3; simp [h1, h2, h3]
    · rintro rfl; exact ⟨rfl, rfl, rfl⟩

section
variable {κ α : Type} [KeyC κ]

def keysM (m : List (κ × α)) : List Value := m.map fun p => KeyC.kval p.1
def valsM [Cod α] (m : List (κ × α)) : List V := m.map fun p => Cod.enc p.2
/-- Where a key stands. -/
def fidx (m : List (κ × α)) (k : κ) : Option Nat := m.findIdx? fun p => decide (k = p.1)
def lookM (m : List (κ × α)) (k : κ) : Option α := (m.find? fun p => decide (k = p.1)).map (·.2)
def putM (m : List (κ × α)) (k : κ) (a : α) : List (κ × α) := match fidx m k with
  | some i => m.set i (k, a)
  | none => m ++ [(k, a)]
def delM (m : List (κ × α)) (k : κ) : List (κ × α) := match fidx m k with
  | some i => m.eraseIdx i
  | none => m

theorem keyFind_typed (m : List (κ × α)) (k : κ) (i : Nat) : keyFind (KeyC.ag κ) (KeyC.ks κ) (KeyC.kval k).cells.toList (keysM m) i = some ((fidx m k).map (· + i)) := by
  induction m generalizing i with
  | nil => rfl
  | cons p m ih =>
    simp only [keysM, List.map_cons, keyFind, KeyC.okk, if_true, KeyC.eqk]
    have ih' := ih (i + 1)
    simp only [keysM] at ih'
    by_cases h : k = p.1
    · simp [h, fidx, List.findIdx?_cons]
    · simp only [h, decide_false, ih', fidx, List.findIdx?_cons, Bool.false_eq_true, if_false]
      cases List.findIdx? (fun p => decide (k = p.1)) m <;> simp; omega
theorem idxI_typed (m : List (κ × α)) (k : κ) : idxI (KeyC.ag κ) (KeyC.ks κ) (KeyC.kval k) (keysM m) = some (fidx m k) := by
  unfold idxI
  rw [if_pos (KeyC.len k), keyFind_typed]
  simp
theorem idxI_of {ag : Bool} {ks : List CK} {kv : Value} (m : List (κ × α)) (k : κ) (h1 : ag = KeyC.ag κ) (h2 : ks = KeyC.ks κ) (h3 : kv = KeyC.kval k) : idxI ag ks kv (keysM m) = some (fidx m k) := by
  subst h1 h2 h3; exact idxI_typed m k

theorem fidx_some {m : List (κ × α)} {k : κ} {i : Nat} (h : fidx m k = some i) : ∃ a, m[i]? = some (k, a) ∧ lookM m k = some a := by
  unfold fidx at h
  unfold lookM
  have hh := List.findIdx?_eq_some_iff_getElem.1 h
  obtain ⟨hi, h1, h2⟩ := hh
  have e : m[i].1 = k := by simpa using (Eq.symm (by simpa using h1))
  refine ⟨m[i].2, ?_, ?_⟩
  · rw [List.getElem?_eq_getElem hi, ← e]
  · have : m.find? (fun p => decide (k = p.1)) = some m[i] := by
      rw [List.find?_eq_some_iff_getElem]
      exact ⟨h1, i, hi, rfl, fun j hj => by simpa using h2 j hj⟩
    rw [this]; rfl
theorem fidx_none {m : List (κ × α)} {k : κ} (h : fidx m k = none) : lookM m k = none := by
  unfold fidx at h
  unfold lookM
  rw [List.findIdx?_eq_none_iff] at h
  rw [Option.map_eq_none_iff, List.find?_eq_none]
  intro p hp
  simp [h p hp]
theorem lookM_none {m : List (κ × α)} {k : κ} : lookM m k = none ↔ fidx m k = none := by
  constructor
  · intro h
    cases hf : fidx m k with
    | none => rfl
    | some i => obtain ⟨a, _, h2⟩ := fidx_some hf; rw [h] at h2; cases h2
  · exact fidx_none

/-- What a look-up yields. -/
def lookT [Cod α] (z : V) (b : Bool) : Option α → Option (V × List (Nat × Obj))
  | some a => some (lookV b (Cod.enc a) true, [])
  | none => some (lookV b z false, [])
@[go_sem ↓] theorem lookT_some [Cod α] (z : V) (b : Bool) (a : α) : lookT z b (some a) = some (lookV b (Cod.enc a) true, []) := nd rfl
@[go_sem ↓] theorem lookT_none [Cod α] (z : V) (b : Bool) : lookT z b (none : Option α) = some (lookV b z false, []) := nd rfl
@[congr] theorem lookT_congr [Cod α] {z : V} {b : Bool} {x x' : Option α} (h : x = x') : lookT z b x = lookT z b x' := by rw [h]
@[go_sem] theorem lookF_typed [Cod α] (z : V) (b : Bool) (m : List (κ × α)) (k : κ) : lookF z b (valsM m) (some (fidx m k)) = lookT z b (lookM m k) := by
  cases h : fidx m k with
  | none => rw [fidx_none h]; rfl
  | some i =>
    obtain ⟨a, h1, h2⟩ := fidx_some h
    rw [h2]
    simp [lookF, valsM, h1, lookT]
theorem putF_typed [Cod α] (id : Nat) (kv : Value) (v : V) (m : List (κ × α)) (k : κ) (a : α) (hk : kv = KeyC.kval k) (hv : v = Cod.enc a) :
    putF' id kv v (keysM m) (valsM m) (some (fidx m k)) = some (.any, [(id, .ext (.map (keysM (putM m k a)) (valsM (putM m k a))))]) := by
  subst hk hv
  unfold putM
  cases h : fidx m k with
  | none => simp [putF', keysM, valsM]
  | some i => simp [putF', keysM, valsM, List.map_set]
theorem map_erase' {α β : Type} (f : α → β) : ∀ (l : List α) (i : Nat), (l.eraseIdx i).map f = (l.map f).eraseIdx i
  | [], _ => rfl
  | _ :: _, 0 => rfl
  | a :: l, i + 1 => by simp [map_erase' f l i]
@[go_sem] theorem delF_typed [Cod α] (id : Nat) (m : List (κ × α)) (k : κ) : delF id (keysM m) (valsM m) (some (fidx m k)) = some (.sc (.tuple #[]), [(id, .ext (.map (keysM (delM m k)) (valsM (delM m k))))]) := by
  unfold delM
  cases h : fidx m k with
  | none => simp [delF, keysM, valsM]
  | some i => simp [delF, keysM, valsM, map_erase']
@[go_sem] theorem keysM_len (m : List (κ × α)) : (keysM m).length = m.length := by simp [keysM]
theorem keysM_nil : keysM ([] : List (κ × α)) = [] := rfl
theorem valsM_nil [Cod α] : valsM ([] : List (κ × α)) = [] := rfl

/-! ### What looking up after a change yields -/
theorem lookM_nil (k : κ) : lookM ([] : List (κ × α)) k = none := rfl
theorem find_set {m : List (κ × α)} {k : κ} {a : α} {i : Nat} (h : fidx m k = some i) (k' : κ) : lookM (m.set i (k, a)) k' = if k' = k then some a else lookM m k' := by
  induction m generalizing i with
  | nil => simp [fidx] at h
  | cons p m ih =>
    unfold fidx at h
    rw [List.findIdx?_cons] at h
    by_cases hk : k = p.1
    · simp only [hk, decide_true, if_true, Option.some.injEq] at h
      subst h
      simp only [List.set_cons_zero, lookM, List.find?_cons]
      by_cases e : k' = k
      · simp [e]
      · have : ¬ k' = p.1 := fun e' => e (e'.trans hk.symm)
        simp [e, this]
    · simp only [hk, decide_false, Bool.false_eq_true, if_false, Option.map_eq_some_iff] at h
      obtain ⟨j, hj, rfl⟩ := h
      have := ih (i := j) hj
      simp only [List.set_cons_succ]
      unfold lookM at this ⊢
      rw [List.find?_cons, List.find?_cons]
      by_cases e : k' = p.1
      · have : ¬ k' = k := fun e' => hk (e'.symm.trans e)
        simp [e]
        intro h; exact absurd h.symm hk
      · simp only [e, decide_false]
        exact this
theorem lookM_put (m : List (κ × α)) (k : κ) (a : α) (k' : κ) : lookM (putM m k a) k' = if k' = k then some a else lookM m k' := by
  unfold putM
  cases h : fidx m k with
  | some i => exact find_set h k'
  | none =>
    have hn := fidx_none h
    unfold lookM at hn ⊢
    simp only [List.find?_append, List.find?_cons, List.find?_nil]
    by_cases e : k' = k
    · subst e
      rw [Option.map_eq_none_iff] at hn
      simp [hn]
    · simp only [e, decide_false, if_false, Option.or_none]

/-- A map, or the map that is nil. -/
structure KM (κ α : Type) where
  o : Option (List (κ × α))
def decKs : List Value → Option (List κ)
  | [] => some []
  | v :: vs => match KeyC.kdec v, decKs vs with
    | some k, some l => some (k :: l)
    | _, _ => none
theorem decKs_val (l : List κ) : decKs (l.map KeyC.kval) = some l := by
  induction l with
  | nil => rfl
  | cons k l ih => simp [decKs, KeyC.kdec_val, ih]
theorem decKs_eq : ∀ {vs : List Value} {l : List κ}, decKs vs = some l → vs = l.map KeyC.kval
  | [], l, h => by cases h; rfl
  | v :: vs, l, h => by
    simp only [decKs] at h
    split at h
    · rename_i k l' h1 h2
      cases h
      rw [KeyC.kval_dec _ _ h1, decKs_eq h2]
      rfl
    · cases h
def decM [Cod α] : V → Option (KM κ α)
  | .sc (.map none) => some ⟨none⟩
  | .mapf ks vs => match (decKs ks : Option (List κ)), (decL Cod.dec vs : Option (List α)) with
    | some a, some b => if a.length = b.length then some ⟨some (a.zip b)⟩ else none
    | _, _ => none
  | _ => none
theorem LeV.mapf {ks : List Value} {vs vs' : List V} (hl : vs.length = vs'.length) (h : ∀ (j : Nat) v v', vs[j]? = some v → vs'[j]? = some v' → LeV v v') : LeV (.mapf ks vs) (.mapf ks vs') := by
  intro I w u hr
  cases hr with
  | mapf _ _ _ r clock ents hI hr hl' hk hh =>
    refine .mapf _ _ _ _ clock ents hI hr (by omega) hk fun j x e hx he => ?_
    have hj : j < vs.length := by rw [hl]; exact (List.getElem?_eq_some_iff.1 hx).1
    exact h j vs[j] x (by simp) hx I w _ (hh j vs[j] e (by simp) he)
instance instKM [Cod α] : Cod (KM κ α) where
  enc := fun m => match m.o with
    | none => .sc (.map none)
    | some l => .mapf (keysM l) (valsM l)
  dec := decM
  sz := 1
  len := fun m => by cases m.o <;> rfl
  dec_enc := fun ⟨m⟩ => by
    cases m with
    | none => rfl
    | some l =>
      have e1 : keysM l = (l.map (·.1)).map KeyC.kval := by simp [keysM, Function.comp_def]
      have e2 : valsM l = (l.map (·.2)).map Cod.enc := by simp [valsM, Function.comp_def]
      show decM (.mapf (keysM l) (valsM l)) = _
      simp only [decM, e1, e2, decKs_val, decL_enc Cod.dec_enc, List.length_map, if_true]
      simp only [← List.unzip_fst, ← List.unzip_snd, List.zip_unzip]
  le := fun v m h => by
    unfold decM at h
    split at h
    · cases h; exact .one rfl rfl (.refl _)
    · rename_i ks vs
      split at h
      · rename_i a b h1 h2
        split at h
        · rename_i hl
          cases h
          refine .one rfl rfl ?_
          have e1 : keysM (a.zip b) = ks := by
            rw [decKs_eq h1]
            simp only [keysM]
            rw [show (fun p : κ × α => KeyC.kval p.1) = KeyC.kval ∘ Prod.fst from rfl, ← List.map_map, List.map_fst_zip (by omega)]
          have e2 : valsM (a.zip b) = b.map Cod.enc := by
            simp only [valsM]
            rw [show (fun p : κ × α => Cod.enc p.2) = Cod.enc ∘ Prod.snd from rfl, ← List.map_map, List.map_snd_zip (by omega)]
          show LeV (.mapf ks vs) (.mapf (keysM (a.zip b)) (valsM (a.zip b)))
          rw [e1, e2]
          obtain ⟨g1, g2⟩ := decL_get h2
          refine .mapf (by simp [g1]) fun j v v' hv hv' => ?_
          simp only [List.getElem?_map, Option.map_eq_some_iff] at hv'
          obtain ⟨x, hx, rfl⟩ := hv'
          exact (Cod.le _ _ (g2 j v x hv hx)).le
        · cases h
      · cases h
    · cases h
@[go_sem ↓] theorem enc_km [Cod α] (m : List (κ × α)) : Cod.enc (⟨some m⟩ : KM κ α) = .mapf (keysM m) (valsM m) := nd rfl
@[go_sem ↓] theorem enc_km0 [Cod α] : Cod.enc (⟨none⟩ : KM κ α) = .sc (.map none) := nd rfl
@[go_sem ↓] theorem dec_km0 [Cod α] : (Cod.dec (.sc (.map none)) : Option (KM κ α)) = some ⟨none⟩ := nd rfl
@[go_sem] theorem dec_km [Cod α] (m : List (κ × α)) : (Cod.dec (.mapf (keysM m) (valsM m)) : Option (KM κ α)) = some ⟨some m⟩ := Cod.dec_enc (⟨some m⟩ : KM κ α)
end

/-! ### Keys that are strings, keys of three cells -/
@[go_sem] theorem idxI_str {α : Type} (m : List (ByteArray × α)) (s : ByteArray) : idxI false [.s] (.string s) (keysM m) = some (fidx m s) := idxI_typed m s
@[go_sem] theorem idxI_key {α : Type} (m : List (KeyD × α)) (x y : ByteArray) (n : Int) : idxI true [.s, .s, .i .i64] (.agg #[.string x, .string y, .int .i64 n]) (keysM m) = some (fidx m ⟨x, y, n⟩) := idxI_typed m ⟨x, y, n⟩
@[go_sem] theorem kvOf_key (x y : ByteArray) (n : Int) : kvOf true (.agg [.sc (.string x), .sc (.string y), .sc (.int .i64 n)]) = some (.agg #[.string x, .string y, .int .i64 n]) := nd rfl
@[go_sem] theorem putF_strB (id : Nat) (s : ByteArray) (b : Bool) (m : List (ByteArray × Bool)) : putF' id (.string s) (.sc (.bool b)) (keysM m) (valsM m) (some (fidx m s)) = some (.any, [(id, .ext (.map (keysM (putM m s b)) (valsM (putM m s b))))]) := putF_typed id _ _ m s b rfl rfl

end Go.Idl
