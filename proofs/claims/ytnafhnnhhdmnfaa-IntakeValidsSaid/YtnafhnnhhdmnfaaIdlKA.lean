/-
  Maps: what is looked up, put, taken away, counted.
-/
import Derived.Test.YtnafhnnhhdmnfaaIdlK
namespace Go.Idl
set_option linter.all false
open Go.RowKit

section
variable {P : Program}
/-! ### Pure runs -/
theorem runPure_bind {α β : Type} (P : Program) (s : Sem α) (k : α → Sem β) : runPure P (s >>= k) = (runPure P s).bind fun a => runPure P (k a) := by
  show runPure P (Sem.bind s k) = _
  induction s with
  | pure a => simp [Sem.bind, runPure]
  | program g ih => simp only [Sem.bind, runPure]; exact ih P
  | _ => simp [Sem.bind, runPure]

theorem runPure_pure {α : Type} (P : Program) (a : α) : runPure P (pure a : Sem α) = some a := rfl
theorem runPure_underlying {t : TypeId} {d : TypeDesc} (h : P.underlying t = some d) : runPure P (underlying t) = some d := by
  show runPure P (Sem.bind (.program .pure) _) = _
  simp only [Sem.bind, runPure, h]
  rfl

end

/-! ### Values that are compared cell by cell -/
theorem eqK_len : ∀ {ks : List CK} {xs ys : List Value} {b : Bool}, eqK ks xs ys = some b → xs.length = ks.length ∧ ys.length = ks.length
  | [], [], [], _, _ => ⟨rfl, rfl⟩
  | c :: ks, x :: xs, y :: ys, b, h => by
    simp only [eqK] at h
    cases h2 : eqK ks xs ys with
    | none => rw [h2] at h; cases h1 : eqC c x y <;> simp [h1, andO] at h
    | some b' => have := eqK_len h2; simp [this]
  | [], _ :: _, _, _, h => by simp [eqK] at h
  | [], [], _ :: _, _, h => by simp [eqK] at h
  | _ :: _, [], _, _, h => by simp [eqK] at h
  | _ :: _, _ :: _, [], _, h => by simp [eqK] at h

theorem eqK_app : ∀ {ks ls : List CK} {xs ys : List Value} {b : Bool}, eqK (ks ++ ls) xs ys = some b →
    ∃ b1 b2, eqK ks (xs.take ks.length) (ys.take ks.length) = some b1 ∧ eqK ls (xs.drop ks.length) (ys.drop ks.length) = some b2 ∧ b = (b1 && b2)
  | [], ls, xs, ys, b, h => ⟨true, b, rfl, by simpa using h, by simp⟩
  | c :: ks, ls, x :: xs, y :: ys, b, h => by
    simp only [List.cons_append, eqK] at h
    cases h1 : eqC c x y with
    | none => simp [h1, andO] at h
    | some b0 =>
      cases h2 : eqK (ks ++ ls) xs ys with
      | none => simp [h1, h2, andO] at h
      | some b' =>
        obtain ⟨b1, b2, h3, h4, rfl⟩ := eqK_app h2
        simp only [h1, h2, andO, Option.some.injEq] at h
        subst h
        exact ⟨b0 && b1, b2, by simp [eqK, h1, h3, andO], by simpa using h4, by simp [Bool.and_assoc]⟩
  | _ :: _, _, [], _, _, h => by simp [eqK] at h
  | _ :: _, _, _ :: _, [], _, h => by simp [eqK] at h

variable {P : Program}

theorem runPure_sizeT {t : TypeId} {n : Nat} (h : sizeT P t = some n) : runPure P (sizeOf t) = some n := by
  unfold sizeT at h
  cases hi : P.info? t with
  | none => simp [hi] at h
  | some i =>
    simp [hi] at h
    simp [sizeOf, typeInfo, program, runPure_bind, runPure, hi, h, runPure_pure]
theorem runPure_isAgg {t : TypeId} {d : TypeDesc} (h : P.underlying t = some d) : runPure P (isAgg t) = some (aggT P t) := by
  unfold isAgg aggT
  rw [runPure_bind, runPure_underlying h, h]
  cases d <;> rfl

/-- The value that so many cells make. -/
def ofCells (ag : Bool) (cs : List Value) : Value := if ag then .agg cs.toArray else cs.headD undef

theorem runPure_part {t : TypeId} {d : TypeDesc} {n o : Nat} {xs : Array Value} (h : P.underlying t = some d) (hs : sizeT P t = some n) (hle : o + n ≤ xs.size) (h1 : aggT P t = false → n = 1) :
    runPure P (part t xs o) = some (ofCells (aggT P t) ((xs.toList.drop o).take n)) := by
  unfold part ofCells
  rw [runPure_bind, runPure_isAgg h, Option.bind_some]
  cases ha : aggT P t with
  | true =>
    simp only [if_true, runPure_bind, runPure_sizeT hs, Option.bind_some, runPure_pure]
    congr 2
    apply Array.ext'
    rw [Array.toList_extract]
    simp [List.extract_eq_take_drop]
  | false =>
    have := h1 ha
    subst this
    simp only [Bool.false_eq_true, if_false]
    have hlt : o < xs.size := by omega
    have : xs[o]? = some xs[o] := by simp [hlt]
    rw [this]
    simp only [runPure_pure]
    congr 1
    have e : List.drop o xs.toList = xs[o] :: List.drop (o + 1) xs.toList := by
      rw [List.drop_eq_getElem_cons (by simpa using hlt)]; simp
    rw [e]
    rfl

theorem cellKinds_one {f : Nat} {t : TypeId} {ks : List CK} (h : cellKinds P f t = some ks) : (∃ d, P.underlying t = some d) ∧ (aggT P t = false → ks.length = 1) := by
  cases f with
  | zero => simp [cellKinds] at h
  | succ f =>
    simp only [cellKinds] at h
    unfold aggT
    cases hu : P.underlying t with
    | none => rw [hu] at h; simp at h
    | some d =>
      rw [hu] at h
      refine ⟨⟨d, rfl⟩, ?_⟩
      cases d <;> simp at h ⊢ <;> simp [← h]

theorem runPure_equalIn : ∀ (f : Nat) (d : Nat) (t : TypeId) (ks : List CK) (xs ys : List Value) (b : Bool), f ≤ d → cellKinds P f t = some ks → eqK ks xs ys = some b →
    runPure P (Op.equalIn d t (ofCells (aggT P t) xs) (ofCells (aggT P t) ys)) = some b
  | 0, _, _, _, _, _, _, _, h, _ => by simp [cellKinds] at h
  | f + 1, 0, _, _, _, _, _, hd, _, _ => by omega
  | f + 1, d + 1, t, ks, xs, ys, b, hd, hk, he => by
    simp only [cellKinds] at hk
    cases hu : P.underlying t with
    | none => rw [hu] at hk; simp at hk
    | some ty =>
      rw [hu] at hk
      have one : ∀ c, ks = [c] → aggT P t = false → ∃ x y, xs = [x] ∧ ys = [y] ∧ eqC c x y = some b := by
        rintro c rfl _
        obtain ⟨h1, h2⟩ := eqK_len he
        match xs, ys, h1, h2 with
        | [x], [y], _, _ =>
          refine ⟨x, y, rfl, rfl, ?_⟩
          simp only [eqK] at he
          cases h : eqC c x y with
          | none => simp [h, andO] at he
          | some b' => simp [h, andO] at he; rw [he]
      cases ty with
      | bool =>
        simp at hk
        have ha : aggT P t = false := by simp [aggT, hu]
        obtain ⟨x, y, rfl, rfl, h⟩ := one _ hk.symm ha
        rw [ha]
        unfold eqC at h
        split at h <;> simp_all [ofCells, Op.equalIn, runPure_bind, runPure_underlying hu, runPure_pure]
      | int k =>
        simp at hk
        have ha : aggT P t = false := by simp [aggT, hu]
        obtain ⟨x, y, rfl, rfl, h⟩ := one _ hk.symm ha
        rw [ha]
        unfold eqC at h
        split at h <;> simp_all [ofCells, Op.equalIn, runPure_bind, runPure_underlying hu, runPure_pure]
      | string =>
        simp at hk
        have ha : aggT P t = false := by simp [aggT, hu]
        obtain ⟨x, y, rfl, rfl, h⟩ := one _ hk.symm ha
        rw [ha]
        unfold eqC at h
        split at h <;> simp_all [ofCells, Op.equalIn, runPure_bind, runPure_underlying hu, runPure_pure]
      | struct fs =>
        simp only at hk
        split at hk
        · rename_i hs
          have ha : aggT P t = true := by simp [aggT, hu]
          rw [ha]
          simp only [ofCells, if_true]
          simp only [Op.equalIn, runPure_bind, runPure_underlying hu, Option.bind_some]
          simp only [program, runPure, Option.bind_some, hs]
          simp only [Bool.false_eq_true, if_false, runPure_bind, runPure_pure, Option.bind_some, ne_eq]
          rw [← Array.forIn_toList]
          -- over the fields
          have key : ∀ (l : List Field) (o : Nat) (ls : List CK) (b : Bool), fieldKinds P (cellKinds P f) o l = some ls → eqK ls (xs.drop o) (ys.drop o) = some b →
              runPure P (forIn l ((none : Option Bool), ()) fun f __s =>
                if ¬f.name = "_" then do
                  let __do_lift ← part f.type xs.toArray f.offset
                  let __do_lift_1 ← part f.type ys.toArray f.offset
                  let __do_lift ← Op.equalIn d f.type __do_lift __do_lift_1
                  if (!__do_lift) = true then pure (ForInStep.done (some false, ())) else pure (ForInStep.yield (none, ()))
                else pure (ForInStep.yield (none, ()))) = some (if b then (none, ()) else (some false, ())) := by
            intro l
            induction l with
            | nil =>
              intro o ls b h1 h2
              simp [fieldKinds] at h1
              subst h1
              obtain ⟨g1, g2⟩ := eqK_len h2
              have e1 : xs.drop o = [] := List.eq_nil_of_length_eq_zero g1
              have e2 : ys.drop o = [] := List.eq_nil_of_length_eq_zero g2
              rw [e1, e2] at h2
              simp [eqK] at h2
              subst h2
              rfl
            | cons fd l ih =>
              intro o ls b h1 h2
              simp only [fieldKinds] at h1
              split at h1
              · rename_i k1 k2 hk1 hk2
                split at h1
                · rename_i hc
                  cases h1
                  obtain ⟨b1, b2, h3, h4, rfl⟩ := eqK_app h2
                  rw [List.drop_drop, List.drop_drop] at h4
                  obtain ⟨⟨dd, hdd⟩, hone⟩ := cellKinds_one hk1
                  have hcs : P.cellsOf fd.type = k1.length := by
                    have := hc.2.2.1
                    unfold sizeT at this
                    unfold Program.cellsOf
                    rw [this]
                    rfl
                  rw [hcs] at hk2
                  obtain ⟨g1, g2⟩ := eqK_len h3
                  have hz := hc.2.2.2
                  have q1 : o + k1.length ≤ xs.length := by simp at g1; omega
                  have q2 : o + k1.length ≤ ys.length := by simp at g2; omega
                  rw [List.forIn_cons]
                  simp only [if_pos hc.2.1, runPure_bind, hc.1]
                  rw [runPure_part (xs := xs.toArray) hdd hc.2.2.1 (by simpa using q1) hone, runPure_part (xs := ys.toArray) hdd hc.2.2.1 (by simpa using q2) hone]
                  simp only [Option.bind_some]
                  rw [runPure_equalIn f d fd.type k1 _ _ b1 (by omega) hk1 h3]
                  simp only [Option.bind_some]
                  cases b1 with
                  | false => simp [runPure_pure]
                  | true =>
                    simp only [Bool.not_true, Bool.false_eq_true, if_false, runPure_pure, Option.bind_some, Bool.true_and]
                    exact ih _ k2 b2 hk2 h4
                · cases h1
              · cases h1
          rw [key fs.toList 0 ks b hk (by simpa using he)]
          cases b <;> rfl
        · cases hk
      | _ => simp at hk


/-! ### Keys -/
theorem okKey_t {v : Value} (h : okKey true v = true) : ∃ cs, v = .agg cs := by
  cases v <;> simp [okKey] at h
  exact ⟨_, rfl⟩
theorem okKey_f {v : Value} (h : okKey false v = true) : v.cells = #[v] := by
  cases v <;> simp [okKey] at h <;> rfl
theorem okKey_fits {ag : Bool} {v : Value} (h : okKey ag v = true) : v = ofCells ag v.cells.toList := by
  unfold ofCells
  cases ag with
  | true => obtain ⟨cs, rfl⟩ := okKey_t h; simp [Value.cells]
  | false => rw [okKey_f h]; rfl

theorem keyFind_ge {ag : Bool} {ks : List CK} {k : List Value} : ∀ {xs : List Value} {i j : Nat}, keyFind ag ks k xs i = some (some j) → i ≤ j ∧ j - i < xs.length
  | [], i, j, h => by simp [keyFind] at h
  | x :: xs, i, j, h => by
    simp only [keyFind] at h
    split at h
    · split at h
      · cases h; simp
      · have := keyFind_ge h; simp; omega
      · cases h
    · cases h
theorem keyFind_eq {ag : Bool} {ks : List CK} {k : List Value} : ∀ {xs : List Value} {i j : Nat}, keyFind ag ks k xs i = some (some j) → ∃ x, xs[j - i]? = some x ∧ okKey ag x = true ∧ eqK ks k x.cells.toList = some true
  | [], i, j, h => by simp [keyFind] at h
  | x :: xs, i, j, h => by
    simp only [keyFind] at h
    split at h
    · rename_i ho
      split at h
      · rename_i he; cases h; exact ⟨x, by simp, ho, he⟩
      · have hge := keyFind_ge h
        obtain ⟨y, h1, h2⟩ := keyFind_eq h
        exact ⟨y, by rw [show j - i = (j - (i + 1)) + 1 by omega, List.getElem?_cons_succ]; exact h1, h2⟩
      · cases h
    · cases h

variable {P : Program}

theorem find_asking {kt : TypeId} {ks : List CK} (hk : cellKinds P 8 kt = some ks) {k : Value} (hkf : okKey (aggT P kt) k = true) : ∀ (es : List MapEntry) (i : Nat) (r : Option Nat), keyFind (aggT P kt) ks k.cells.toList (es.map (·.key)) i = some r →
    runPure P (Instr.findAsking kt k es i) = some (r.bind fun j => (es[j - i]?).map fun e => (j, e.val))
  | [], i, r, h => by
    simp [keyFind] at h
    subst h
    rfl
  | e :: es, i, r, h => by
    simp only [List.map_cons, keyFind] at h
    split at h
    · rename_i hef
      unfold Instr.findAsking
      rw [runPure_bind]
      cases he : eqK ks k.cells.toList e.key.cells.toList with
      | none => rw [he] at h; cases h
      | some b =>
        have := runPure_equalIn 8 10000 kt ks _ _ b (by omega) hk he
        rw [← okKey_fits hkf, ← okKey_fits hef] at this
        rw [show runPure P (Op.equal kt k e.key) = some b from this]
        rw [he] at h
        cases b with
        | true => cases h; simp [runPure_pure]
        | false =>
          simp only [Option.bind_some, Bool.false_eq_true, if_false]
          rw [find_asking hk hkf es (i + 1) r h]
          congr 1
          cases r with
          | none => rfl
          | some j =>
            have := keyFind_ge h
            simp only [Option.bind_some]
            rw [show j - i = (j - (i + 1)) + 1 by omega, List.getElem?_cons_succ]
    · cases h

theorem find_now {d : TypeDesc} {k : Value} {c : CK} (hc : ∀ x : Value, eqC c k x = none ∨ Instr.sameNow d k x = eqC c k x) (h2 : k.cells = #[k]) : ∀ (es : List MapEntry) (i : Nat) (r' : Option Nat), keyFind false [c] k.cells.toList (es.map (·.key)) i = some r' →
      Instr.findNow d k es i = some (r'.bind fun j => (es[j - i]?).map fun e => (j, e.val))
  | [], i, r', h3 => by
    simp [keyFind] at h3
    subst h3
    rfl
  | e :: es, i, r', h3 => by
    simp only [List.map_cons, keyFind] at h3
    split at h3
    · rename_i ho
      simp only [h2, okKey_f ho, eqK] at h3
      simp only [Instr.findNow]
      rcases hc e.key with h0 | h0
      · simp [h0, andO] at h3
      · rw [h0]
        cases hb : eqC c k e.key with
        | none => simp [hb, andO] at h3
        | some b =>
          simp only [hb, andO, Bool.and_true] at h3
          cases b with
          | true => cases h3; simp
          | false =>
            simp only at h3 ⊢
            rw [find_now hc h2 es (i + 1) r' (by rw [h2]; exact h3)]
            cases r' with
            | none => rfl
            | some j =>
              have := keyFind_ge h3
              simp only [Option.bind_some]
              rw [show j - i = (j - (i + 1)) + 1 by omega, List.getElem?_cons_succ]
    · cases h3

theorem find_key {kt : TypeId} {ks : List CK} (hk : cellKinds P 8 kt = some ks) {k : Value} (hkf : okKey (aggT P kt) k = true) {es : List MapEntry} {r : Option Nat} (h : keyFind (aggT P kt) ks k.cells.toList (es.map (·.key)) 0 = some r) :
    runPure P (Instr.findKey kt k es) = some (r.bind fun j => (es[j]?).map fun e => (j, e.val)) := by
  have hask := find_asking hk hkf es 0 r h
  simp only [Nat.sub_zero] at hask
  unfold Instr.findKey
  obtain ⟨⟨d, hd⟩, _⟩ := cellKinds_one hk
  rw [runPure_bind, runPure_underlying hd, Option.bind_some]
  have now : ∀ c, ks = [c] → aggT P kt = false → (∀ x : Value, eqC c k x = none ∨ Instr.sameNow d k x = eqC c k x) → Instr.findNow d k es 0 = some (r.bind fun j => (es[j]?).map fun e => (j, e.val)) := by
    rintro c rfl ha hc
    rw [ha] at h hkf
    have := find_now hc (okKey_f hkf) es 0 r h
    simpa using this
  simp only [cellKinds, hd] at hk
  cases d with
  | bool =>
    simp at hk
    rw [now _ hk.symm (by simp [aggT, hd]) fun x => ?_]
    · rfl
    · cases k <;> cases x <;> simp [eqC, Instr.sameNow]
  | int kk =>
    simp at hk
    rw [now _ hk.symm (by simp [aggT, hd]) fun x => ?_]
    · rfl
    · cases k <;> cases x <;> simp [eqC, Instr.sameNow]
      rename_i k1 a k2 b
      by_cases e1 : k1 = kk <;> by_cases e2 : k2 = kk <;> simp [e1, e2]
  | string =>
    simp at hk
    rw [now _ hk.symm (by simp [aggT, hd]) fun x => ?_]
    · rfl
    · cases k <;> cases x <;> simp [eqC, Instr.sameNow]
  | struct fs =>
    cases es with
    | nil => simp [keyFind] at h; subst h; rfl
    | cons e es =>
      have : Instr.findNow (.struct fs) k (e :: es) 0 = none := by
        have hs : ∀ x, Instr.sameNow (.struct fs) k x = none := fun x => by cases k <;> cases x <;> rfl
        simp [Instr.findNow, hs]
      rw [this]
      exact hask
  | _ => simp at hk

theorem sameBits_C {c : CK} {x y : Value} (h : eqC c x y = some true) (n : Nat) : Instr.sameBits n x y = true := by
  unfold eqC at h
  split at h
  · simp at h; subst h; cases n <;> simp [Instr.sameBits]
  · split at h
    · rename_i hk; simp at h; obtain ⟨rfl, rfl⟩ := hk; subst h; cases n <;> simp [Instr.sameBits]
    · cases h
  · have he : ∀ a b : ByteArray, some (a == b) = some true → ∀ n, Instr.sameBits n (.string a) (.string b) = true := fun a b h n => by
      cases n <;> simpa [Instr.sameBits] using h
    exact he _ _ h n
  · cases h
theorem sameBits_L {ks : List CK} : ∀ {xs ys : List Value}, eqK ks xs ys = some true → ∀ n, ((xs.zip ys).all fun p => Instr.sameBits n p.1 p.2) = true := by
  induction ks with
  | nil => intro xs ys h n; cases xs <;> cases ys <;> simp [eqK] at h ⊢
  | cons c ks ih =>
    intro xs ys h n
    cases xs with
    | nil => simp [eqK] at h
    | cons x xs =>
      cases ys with
      | nil => simp [eqK] at h
      | cons y ys =>
        simp only [eqK] at h
        cases h1 : eqC c x y with
        | none => simp [h1, andO] at h
        | some b1 =>
          cases h2 : eqK ks xs ys with
          | none => simp [h1, h2, andO] at h
          | some b2 =>
            simp [h1, h2, andO] at h
            obtain ⟨rfl, rfl⟩ := h
            simp only [List.zip_cons_cons, List.all_cons, Bool.and_eq_true]
            exact ⟨sameBits_C h1 n, ih h2 n⟩
theorem sameBits_key {ag : Bool} {ks : List CK} {x y : Value} (hx : okKey ag x = true) (hy : okKey ag y = true) (h : eqK ks x.cells.toList y.cells.toList = some true) : Instr.sameBits 10000 x y = true := by
  cases ag with
  | true =>
    obtain ⟨a, rfl⟩ := okKey_t hx
    obtain ⟨b, rfl⟩ := okKey_t hy
    obtain ⟨l1, l2⟩ := eqK_len h
    simp only [Value.cells] at h l1 l2
    have hs : a.size = b.size := by simpa using l1.trans l2.symm
    show (a.size == b.size && (a.toList.zip b.toList).all fun (p : Value × Value) => Instr.sameBits 9999 p.1 p.2) = true
    rw [sameBits_L h, hs]
    simp
  | false =>
    rw [okKey_f hx, okKey_f hy] at h
    have := sameBits_L h 10000
    simpa using this

theorem check_key (emp : Bool) : ∀ (f : Nat) (d : Nat) (t : TypeId) (ks : List CK) (xs : List Value), f ≤ d → cellKinds P f t = some ks → xs.length = ks.length → runPure P (Instr.checkKey emp d t (ofCells (aggT P t) xs)) = some ()
  | 0, _, _, _, _, _, h, _ => by simp [cellKinds] at h
  | f + 1, 0, _, _, _, hd, _, _ => by omega
  | f + 1, d + 1, t, ks, xs, hd, hk, hl => by
    simp only [cellKinds] at hk
    cases hu : P.underlying t with
    | none => rw [hu] at hk; simp at hk
    | some ty =>
      rw [hu] at hk
      unfold Instr.checkKey
      rw [runPure_bind, runPure_underlying hu, Option.bind_some]
      cases ty with
      | bool => rfl
      | int k => rfl
      | string => rfl
      | struct fs =>
        simp only at hk
        split at hk
        · have ha : aggT P t = true := by simp [aggT, hu]
          rw [ha]
          simp only [ofCells, if_true]
          rw [← Array.forIn_toList]
          have key : ∀ (l : List Field) (o : Nat) (ls : List CK), fieldKinds P (cellKinds P f) o l = some ls → xs.length = o + ls.length →
              runPure P (forIn l PUnit.unit fun fd (_ : PUnit) => do
                if fd.name ≠ "_" then Instr.checkKey emp d fd.type (← part fd.type xs.toArray fd.offset)
                pure (ForInStep.yield PUnit.unit)) = some PUnit.unit := by
            intro l
            induction l with
            | nil => intro o ls h1 h2; rfl
            | cons fd l ih =>
              intro o ls h1 h2
              simp only [fieldKinds] at h1
              split at h1
              · rename_i k1 k2 hk1 hk2
                split at h1
                · rename_i hc
                  cases h1
                  obtain ⟨⟨dd, hdd⟩, hone⟩ := cellKinds_one hk1
                  have hcs : P.cellsOf fd.type = k1.length := by
                    have := hc.2.2.1
                    unfold sizeT at this
                    unfold Program.cellsOf
                    rw [this]
                    rfl
                  rw [hcs] at hk2
                  simp only [List.length_append] at h2
                  have q1 : o + k1.length ≤ xs.length := by omega
                  rw [List.forIn_cons]
                  simp only [if_pos hc.2.1, runPure_bind, hc.1]
                  rw [runPure_part (xs := xs.toArray) hdd hc.2.2.1 (by simpa using q1) hone]
                  simp only [Option.bind_some]
                  rw [check_key emp f d fd.type k1 _ (by omega) hk1 (by simp; omega)]
                  simp only [Option.bind_some, runPure_pure]
                  exact ih _ k2 hk2 (by omega)
                · cases h1
              · cases h1
          have := key fs.toList 0 ks hk (by omega)
          first
            | exact this
            | (rw [runPure_bind]; rw [show _ = some PUnit.unit from this]; rfl)
        · cases hk
      | _ => simp at hk

/-! ### The operations -/
theorem kvOf_ok {ag : Bool} {x : V} {v : Value} (h : kvOf ag x = some v) : okKey ag v = true := by
  unfold kvOf at h
  split at h
  · split at h
    · rename_i hk; cases h; exact hk
    · cases h
  · split at h
    · rename_i ha
      rw [Option.map_eq_some_iff] at h
      obtain ⟨l, _, rfl⟩ := h
      simp [okKey, ha]
    · cases h
  · cases h
theorem kvOf_rep {I : Imm} {w : World} {γ : Places} {ag : Bool} {x : V} {v u : Value} (h : kvOf ag x = some v) (hr : Rep I w γ x u) : u = v := by
  unfold kvOf at h
  split at h
  · split at h
    · cases h; exact hr.sc_eq
    · cases h
  · split at h
    · rename_i cs ha
      exact hr.conc (by simpa [V.conc] using h)
    · cases h
  · cases h

section
variable {C : Ctx} {γ : Places} {I : Imm} {τ : Nat → V} {H : Heap} {tm : Array Value} {w : World}
/-- The map that stands there. -/
theorem map_at (hS : Sim C γ I τ H tm w) {id : Nat} {keys : List Value} {vs : List V} (hH : H id = .ext (.map keys vs)) {u : Value} (hu : Rep I w γ (.mapr id) u) :
    ∃ p ents clock, γ id = some p ∧ u = .map (some p.blk) ∧ w.heap[p.blk]? = some (.map ents clock) ∧ ExtAt γ I w id (.map keys vs) p ∧ keys.length = vs.length ∧ ents.toList.map (·.key) = keys ∧ (∀ e, e ∈ ents → e.born < clock) ∧
      ∀ (j : Nat) (x : V) (e : MapEntry), vs[j]? = some x → ents[j]? = some e → Rep I w γ x e.val := by
  obtain ⟨p, hat⟩ := hS.ext id _ hH
  obtain ⟨h1, h2, o, h3, ents, clock, rfl, h4, h5, h6, h7⟩ := hat
  cases hu with
  | mapr _ _ q hq =>
    rw [h1] at hq
    cases hq
    exact ⟨p, ents, clock, h1, rfl, h3, ⟨h1, h2, _, h3, ents, clock, rfl, h4, h5, h6, h7⟩, h4, h5, h6, h7⟩
/-- The map that is held. -/
theorem map_held (hS : Sim C γ I τ H tm w) {x : V} {keys : List Value} {vs : List V} (hH : mapOf H x = some (keys, vs)) {u : Value} (hu : Rep I w γ x u) :
    ∃ r ents clock, u = .map (some r) ∧ w.heap[r]? = some (.map ents clock) ∧ keys.length = vs.length ∧ ents.toList.map (·.key) = keys ∧
      ∀ (j : Nat) (x : V) (e : MapEntry), vs[j]? = some x → ents[j]? = some e → Rep I w γ x e.val := by
  cases x with
  | mapr id =>
    simp only [mapOf] at hH
    split at hH
    · rename_i k v hh
      cases hH
      obtain ⟨p, ents, clock, q1, q2, q3, q4, q5, q6, q7, q8⟩ := map_at hS hh hu
      exact ⟨p.blk, ents, clock, q2, q3, q5, q6, q8⟩
    · cases hH
  | mapf ks vs' =>
    simp only [mapOf, Option.some.injEq, Prod.mk.injEq] at hH
    obtain ⟨rfl, rfl⟩ := hH
    cases hu with
    | mapf _ _ _ r clock ents hI hr hl hk h =>
      exact ⟨r, ents, clock, rfl, hr, hl, hk, fun j x e hx he => (h j x e hx he).mono (Pres.refl _ _) (fun _ _ h => h) (by simp [noPlaces])⟩
  | _ => cases hH
theorem mapKV_facts {t kt et : TypeId} {ks : List CK} (h : mapKV P t = some (kt, et, ks)) : P.underlying t = some (.map kt et) ∧ cellKinds P 8 kt = some ks := by
  unfold mapKV at h
  split at h
  · rename_i kt' et' hu
    rw [Option.map_eq_some_iff] at h
    obtain ⟨ks', h1, h2⟩ := h
    cases h2
    exact ⟨hu, h1⟩
  · cases h
theorem idx_facts {kt : TypeId} {ks : List CK} {kv : Value} {keys : List Value} {r : Option Nat} (hk : cellKinds P 8 kt = some ks) (hkv : okKey (aggT P kt) kv = true) (h : idxOf P kt ks kv keys = some r) (w : World) (emp : Bool) {es : List MapEntry} (hes : es.map (·.key) = keys) :
    (Instr.checkKey emp 10000 kt kv).run P w = .ok () w ∧ (Instr.findKey kt kv es).run P w = .ok (r.bind fun j => (es[j]?).map fun e => (j, e.val)) w := by
  unfold idxOf at h
  split at h
  · rename_i hl
    refine ⟨runPure_run ?_ w, runPure_run (find_key hk hkv (by rw [hes]; exact h)) w⟩
    have := check_key (P := P) emp 8 10000 kt ks kv.cells.toList (by omega) hk (by simpa using hl)
    rwa [← okKey_fits hkv] at this
  · cases h
end

structure MS where
  τ : Nat → V
  H : Heap
  n : Nat
def OpM (P : Program) (C : Ctx) (o : Oper) (s : MS) (K : V → MS → Prop) : Prop :=
  ∀ (tm : Array Value) (ds : List Deferred) (w : World) (γ : Places) (I : Imm), Sim C γ I s.τ s.H tm w →
    (∃ u w' v s' γ' I', (execOp (Act.eval ⟨tm, ds⟩) o).run P w = .ok (.value u) w' ∧ K v s' ∧ Sim C γ' I' s.τ s'.H tm w' ∧ Rep I' w' γ' v u) ∨
    (∃ w' s' γ' I', (execOp (Act.eval ⟨tm, ds⟩) o).run P w = .ok .skip w' ∧ K .any s' ∧ Sim C γ' I' s.τ s'.H tm w')

theorem mapLook_sound {C : Ctx} {s : MS} {o : Oper} {t : TypeId} {m k : Operand} {b : Bool} (ho : o.op = .lookup t m k b) {v : V} {δ : List (Nat × Obj)} (h : mapLook P s.H t (opd s.τ m) (opd s.τ k) b = some (v, δ)) :
    OpM P C o s fun v' s' => v' = v ∧ s' = ⟨s.τ, putH s.H δ, s.n⟩ := by
  intro tm ds w γ I hS
  unfold mapLook at h
  split at h
  · rename_i kt et ks hkv
    obtain ⟨hu, hk⟩ := mapKV_facts hkv
    split at h
    · rename_i keys vs kv hH hkv'
      have hmr := hS.opd ds m
      obtain ⟨r0, ents, clock, q2, q3, q5, q6, q8⟩ := map_held hS hH hmr
      have hkr := kvOf_rep hkv' (hS.opd ds k)
      have hok := kvOf_ok hkv'
      have run : ∀ r, idxOf P kt ks kv keys = some r → ∀ u, (∀ z, r = none → zeroT P et = some z → u = (if b then .tuple #[z, .bool false] else z)) → (∀ j e, r = some j → ents[j]? = some e → u = (if b then .tuple #[e.val, .bool true] else e.val)) →
          (r = none → ∃ z, zeroT P et = some z) → (∀ j, r = some j → ∃ e, ents[j]? = some e) → (execOp (Act.eval ⟨tm, ds⟩) o).run P w = .ok (.value u) w := by
        intro r hr u h1 h2 h3 h4
        obtain ⟨g1, g2⟩ := idx_facts hk hok hr w ents.isEmpty q6
        simp only [execOp, ho]
        rw [q2, hkr]
        cases r with
        | none =>
          obtain ⟨z, hz⟩ := h3 rfl
          rw [h1 z rfl hz]
          simp only [Option.bind_none] at g2
          simp [Instr.lookup, run_underlying hu, getObj, Sem.run, q3, g1, g2, run_zeroT hz]
        | some j =>
          obtain ⟨e, he⟩ := h4 j rfl
          rw [h2 j e rfl he]
          simp only [Option.bind_some, Array.getElem?_toList, he, Option.map_some] at g2
          simp [Instr.lookup, run_underlying hu, getObj, Sem.run, q3, g1, g2]
      have hsame : ∀ x, (⟨s.τ, s.H, s.n⟩ : MS) = x → s = x := fun x hx => hx
      split at h
      · rename_i i hi
        rw [Option.map_eq_some_iff] at h
        obtain ⟨x, hx, he⟩ := h
        simp only [Prod.mk.injEq] at he
        obtain ⟨rfl, rfl⟩ := he
        have hil : i < ents.toList.length := by
          have h1 : i < vs.length := (List.getElem?_eq_some_iff.1 hx).1
          have h2 : ents.toList.length = keys.length := by rw [← q6]; simp
          omega
        have hil' : i < ents.size := by simpa using hil
        have hent : ents[i]? = some ents[i] := by simp [hil']
        have hrep := q8 i x _ hx hent
        refine .inl ⟨_, w, _, s, γ, I, run (some i) hi (if b then .tuple #[ents[i].val, .bool true] else ents[i].val) (by simp) (fun j e hj he => by cases hj; rw [hent] at he; cases he; rfl) (by simp) (fun j hj => by cases hj; exact ⟨_, hent⟩), ⟨rfl, rfl⟩, hS, ?_⟩
        unfold lookV
        cases b with
        | false => exact hrep
        | true =>
          refine .tup _ _ _ rfl fun j c u hc hu => ?_
          match j with
          | 0 => simp at hc hu; subst hc hu; exact hrep
          | 1 => simp at hc hu; subst hc hu; exact .sc _ _
          | j + 2 => simp at hc
      · rename_i hi
        rw [Option.map_eq_some_iff] at h
        obtain ⟨z, hz, he⟩ := h
        simp only [Prod.mk.injEq] at he
        obtain ⟨rfl, rfl⟩ := he
        refine .inl ⟨_, w, _, s, γ, I, run none hi (if b then .tuple #[z, .bool false] else z) (fun z' _ hz' => by rw [hz] at hz'; cases hz'; rfl) (by simp) (fun _ => ⟨z, hz⟩) (by simp), ⟨rfl, rfl⟩, hS, ?_⟩
        unfold lookV
        cases b with
        | false => exact Rep.ofV z
        | true =>
          refine .tup _ _ _ rfl fun j c u hc hu => ?_
          match j with
          | 0 => simp at hc hu; subst hc hu; exact Rep.ofV z
          | 1 => simp at hc hu; subst hc hu; exact .sc _ _
          | j + 2 => simp at hc
      · cases h
    · cases h
  · cases h

theorem putH_ext (H : Heap) (id : Nat) (x : Obj) : putH H [(id, x)] = updH H id x := rfl

/-- The entries of a map are set. -/
theorem map_set {C : Ctx} {γ : Places} {I : Imm} {τ : Nat → V} {H : Heap} {tm : Array Value} {w : World} (hS : Sim C γ I τ H tm w) {id : Nat} {keys keys' : List Value} {vs vs' : List V} (hH : H id = .ext (.map keys vs)) {p : Place} {ents ents' : Array MapEntry} {clock clock' : Nat}
    (q3 : w.heap[p.blk]? = some (.map ents clock)) (q4 : ExtAt γ I w id (.map keys vs) p) (e1 : keys'.length = vs'.length) (e2 : ents'.toList.map (·.key) = keys') (e3 : ∀ e, e ∈ ents' → e.born < clock')
    (e4 : ∀ (j : Nat) (x : V) (e : MapEntry), vs'[j]? = some x → ents'[j]? = some e → Rep I w γ x e.val) :
    Sim C γ I τ (updH H id (.ext (.map keys' vs'))) tm { w with heap := w.heap.setIfInBounds p.blk (.map ents' clock') } :=
  hS.setExt hH q4 (fun c t h => by rw [q3] at h; cases h) fun w' hp => ⟨ents', clock', rfl, e1, e2, e3, fun j x e hx he => (e4 j x e hx he).mono hp (fun _ _ h => h) fun _ _ h => h⟩

theorem run_getMap {w : World} {r : Nat} {es : Array MapEntry} {clock : Nat} (h : w.heap[r]? = some (.map es clock)) : (getObj r).run P w = .ok (.map es clock) w := by
  simp [getObj, Sem.run, h]
theorem run_setMap {w : World} {r : Nat} {es : Array MapEntry} {clock : Nat} (h : w.heap[r]? = some (.map es clock)) (o : Go.Obj) : (setObj r o).run P w = .ok () { w with heap := w.heap.setIfInBounds r o } := by
  simp [setObj, Sem.run, h]
theorem modify_at {ents : Array MapEntry} {i : Nat} {e : MapEntry} (he : ents[i]? = some e) (f : MapEntry → MapEntry) : ents.modify i f = ents.setIfInBounds i (f e) := by
  obtain ⟨hi, rfl⟩ := Array.getElem?_eq_some_iff.1 he
  apply Array.ext
  · simp
  · intro j h1 h2
    rw [Array.getElem_modify, Array.getElem_setIfInBounds (by simpa using h1)]
    by_cases e : i = j
    · subst e; simp
    · simp [e]

theorem mapPut_sound {C : Ctx} {s : MS} {o : Oper} {t : TypeId} {m k x : Operand} (ho : o.op = .mapUpdate t m k x) {v : V} {δ : List (Nat × Obj)} (h : mapPut P s.H t (opd s.τ m) (opd s.τ k) (opd s.τ x) = some (v, δ)) :
    OpM P C o s fun v' s' => v' = v ∧ s' = ⟨s.τ, putH s.H δ, s.n⟩ := by
  intro tm ds w γ I hS
  unfold mapPut at h
  split at h
  · rename_i kt et ks hkv
    obtain ⟨hu, hk⟩ := mapKV_facts hkv
    split at h
    · rename_i id hm
      split at h
      · rename_i keys vs kv hH hkv'
        have hmr := hS.opd ds m
        rw [hm] at hmr
        obtain ⟨p, ents, clock, q1, q2, q3, q4, q5, q6, q7, q8⟩ := map_at hS hH hmr
        have hkr := kvOf_rep hkv' (hS.opd ds k)
        have hok := kvOf_ok hkv'
        have hxr := hS.opd ds x
        have hlen : ents.size = keys.length := by rw [← q6]; simp
        have hlt : p.blk < w.heap.size := (Array.getElem?_eq_some_iff.1 q3).1
        split at h
        · rename_i i hi
          cases h
          have hi' := hi
          unfold idxOf at hi'
          split at hi'
          · obtain ⟨y, hy, hyk, hye⟩ := keyFind_eq hi'
            have hil := keyFind_ge hi'
            simp only [Nat.sub_zero] at hy hil
            have hil' : i < ents.size := by omega
            have hent : ents[i]? = some ents[i] := by simp [hil']
            have hkey : ents[i].key = y := by
              have : (ents.toList.map (·.key))[i]? = some y := by rw [q6]; exact hy
              simpa [hent] using this
            obtain ⟨g1, g2⟩ := idx_facts hk hok hi w false q6
            simp only [Option.bind_some, Array.getElem?_toList, hent, Option.map_some] at g2
            have hsame : Instr.sameBits 10000 ents[i].key kv = true := by
              rw [hkey]
              have hsym : ∀ {ks : List CK} {xs ys : List Value}, eqK ks xs ys = some true → eqK ks ys xs = some true := by
                intro ks
                induction ks with
                | nil => intro xs ys h; cases xs <;> cases ys <;> simp [eqK] at h ⊢
                | cons c ks ih =>
                  intro xs ys h
                  cases xs with
                  | nil => simp [eqK] at h
                  | cons a xs =>
                    cases ys with
                    | nil => simp [eqK] at h
                    | cons b ys =>
                      simp only [eqK] at h ⊢
                      cases h1 : eqC c a b with
                      | none => simp [h1, andO] at h
                      | some b1 =>
                        cases h2 : eqK ks xs ys with
                        | none => simp [h1, h2, andO] at h
                        | some b2 =>
                          simp [h1, h2, andO] at h
                          obtain ⟨rfl, rfl⟩ := h
                          rw [ih h2]
                          have : eqC c b a = some true := by
                            unfold eqC at h1 ⊢
                            split at h1
                            · simp at h1 ⊢; exact h1.symm
                            · split at h1
                              · rename_i hk; rw [if_pos ⟨hk.2, hk.1⟩]; simp at h1 ⊢; exact h1.symm
                              · cases h1
                            · rename_i a b
                              have e1 : ∀ a b : ByteArray, (a == b) = true ↔ a = b := fun a b => by
                                cases a with | mk x => cases b with | mk y =>
                                have e : ((⟨x⟩ : ByteArray) == ⟨y⟩) = (x == y) := rfl
                                rw [e]; simp
                              simp only [Option.some.injEq] at h1 ⊢
                              rw [e1] at h1 ⊢
                              exact h1.symm
                            · cases h1
                          rw [this]; rfl
              exact sameBits_key hyk hok (hsym hye)
            refine .inr ⟨_, _, γ, I, ?_, ⟨rfl, rfl⟩, map_set hS hH q3 q4 (ents' := ents.setIfInBounds i { ents[i] with key := kv, val := (Act.eval ⟨tm, ds⟩ x) }) (clock' := clock) (by simp [q5]) ?_ ?_ ?_⟩
            · simp only [execOp, ho]
              rw [q2, hkr]
              have hks : ∀ w, (Instr.keyThatStays ents[i].key kv).run P w = .ok kv w := fun w => by simp [Instr.keyThatStays, hsame]
              simp only [Instr.mapUpdate, Sem.run_bind, run_underlying hu, Result.andThen_ok, run_getMap q3, g1, g2, hent, Option.map_some, Option.getD_some, hks, modify_at hent, run_setMap q3, Sem.run_pure]
            · rw [Array.toList_setIfInBounds, List.map_set, q6]
            · intro e he
              rw [Array.mem_iff_getElem?] at he
              obtain ⟨j, hj⟩ := he
              rw [Array.getElem?_setIfInBounds] at hj
              by_cases e' : i = j
              · subst e'
                rw [if_pos rfl, if_pos hil'] at hj
                cases hj
                exact q7 ents[i] (Array.mem_of_getElem? hent)
              · rw [if_neg e'] at hj
                exact q7 e (Array.mem_of_getElem? hj)
            · intro j y e hy' he
              rw [Array.getElem?_setIfInBounds] at he
              rw [List.getElem?_set] at hy'
              by_cases e' : i = j
              · subst e'
                simp [hil'] at he
                subst he
                have : i < vs.length := by omega
                simp [this] at hy'
                subst hy'
                exact hxr
              · simp [e'] at he hy'
                exact q8 j y e hy' he
          · cases hi'
        · rename_i hi
          cases h
          obtain ⟨g1, g2⟩ := idx_facts hk hok hi w false q6
          simp only [Option.bind_none] at g2
          refine .inr ⟨_, _, γ, I, ?_, ⟨rfl, rfl⟩, map_set hS hH q3 q4 (ents' := ents.push { key := kv, val := (Act.eval ⟨tm, ds⟩ x), born := clock }) (clock' := clock + 1) (by simp [q5]) ?_ ?_ ?_⟩
          · simp only [execOp, ho]
            rw [q2, hkr]
            simp only [Instr.mapUpdate, Sem.run_bind, run_underlying hu, Result.andThen_ok, run_getMap q3, g1, g2, run_setMap q3, Sem.run_pure]
          · simp [q6]
          · intro e he
            rw [Array.mem_push] at he
            rcases he with he | rfl
            · have := q7 e he; omega
            · simp
          · intro j y e hy' he
            by_cases hj : j < ents.size
            · rw [Array.getElem?_push_lt hj] at he
              rw [List.getElem?_append_left (by omega)] at hy'
              exact q8 j y e hy' (by simpa [hj] using he)
            · rw [List.getElem?_append_right (by omega)] at hy'
              have hj' : j = ents.size := by
                have := (List.getElem?_eq_some_iff.1 hy').1
                simp at this
                omega
              subst hj'
              simp at he
              subst he
              have : ents.size - vs.length = 0 := by omega
              rw [this] at hy'
              simp at hy'
              subst hy'
              exact hxr
        · cases h
      · cases h
    · cases h
  · cases h

theorem mapMake_sound {C : Ctx} {s : MS} {o : Oper} {t : TypeId} {r : Option Operand} (ho : o.op = .makeMap t r) {v : V} {δ : List (Nat × Obj)} (h : mapMake P s.n s.H t (r.map (opd s.τ)) = some (v, δ)) :
    OpM P C o s fun v' s' => v' = v ∧ s' = ⟨s.τ, putH s.H δ, s.n⟩ := by
  intro tm ds w γ I hS
  unfold mapMake at h
  split at h
  · rename_i kv hkv
    obtain ⟨kt, et, ks⟩ := kv
    obtain ⟨hu, hk⟩ := mapKV_facts hkv
    have fin : s.H s.n = .unborn → (execOp (Act.eval ⟨tm, ds⟩) o).run P w = .ok (.value (.map (some w.heap.size))) (w.alloc (.map #[] 0)) → (v, δ) = (V.mapr s.n, [(s.n, Obj.ext (.map [] []))]) →
        (∃ u w' v' s' γ' I', (execOp (Act.eval ⟨tm, ds⟩) o).run P w = .ok (.value u) w' ∧ (v' = v ∧ s' = (⟨s.τ, putH s.H δ, s.n⟩ : MS)) ∧ Sim C γ' I' s.τ s'.H tm w' ∧ Rep I' w' γ' v' u) := by
      intro hn hrun he
      cases he
      have := hS.bornExt hn (x := .map [] []) (o := .map #[] 0) fun γ' w' _ _ => ⟨#[], 0, rfl, rfl, rfl, by simp, by simp⟩
      exact ⟨_, _, _, _, _, I, hrun, ⟨rfl, rfl⟩, this, .mapr _ _ ⟨w.heap.size, 0, 0⟩ (by simp [updP])⟩
    split at h
    · rename_i hr
      split at h
      · rename_i hn
        refine .inl (fin hn ?_ (by simpa using h.symm))
        have : r = none := by simpa using hr
        subst this
        simp only [execOp, ho]
        simp [Instr.makeMap, newObj, Sem.run]
        try rfl
      · cases h
    · rename_i kk nn hr
      split at h
      · rename_i hn
        refine .inl (fin hn ?_ (by simpa using h.symm))
        obtain ⟨y, hy, hyv⟩ := Option.map_eq_some_iff.1 hr
        subst hy
        have hyr := hS.opd ds y
        rw [hyv] at hyr
        have := hyr.sc_eq
        simp only [execOp, ho, Option.map_some]
        rw [this]
        simp [Instr.makeMap, newObj, Sem.run, run_underlying hu, asInt]
        try rfl
      · cases h
    · cases h
  · cases h

theorem mapLen_sound {C : Ctx} {s : MS} {o : Oper} {c : Call} {t : TypeId} {m : Operand} (ho : o.op = .call c) (hc : c.callee = .builtin .len) (hargs : c.args.toList = [m]) (hts : c.argTypes.toList = [t]) {v : V} {δ : List (Nat × Obj)} (h : mapLen P s.H t (opd s.τ m) = some (v, δ)) :
    OpM P C o s fun v' s' => v' = v ∧ s' = ⟨s.τ, putH s.H δ, s.n⟩ := by
  intro tm ds w γ I hS
  have h1 : c.args = #[m] := by rw [← Array.toArray_toList (xs := c.args), hargs]
  have h2 : c.argTypes = #[t] := by rw [← Array.toArray_toList (xs := c.argTypes), hts]
  unfold mapLen at h
  split at h
  · rename_i kt et hu
    split at h
    · rename_i keys vs hH
      cases h
      have hmr := hS.opd ds m
      obtain ⟨r0, ents, clock, q2, q3, q5, q6, q8⟩ := map_held hS hH hmr
      have hlen : ents.size = keys.length := by rw [← q6]; simp
      refine .inl ⟨.int .i64 (keys.length : Int), w, _, s, γ, I, ?_, ⟨rfl, rfl⟩, hS, .sc _ _⟩
      have : Act.eval ⟨tm, ds⟩ m = .map (some r0) := q2
      simp [execOp, ho, resolve, hc, h1, h2, invoke, builtin, Builtin.len_, run_underlying hu, this, run_getMap q3, goInt, hlen]
    · cases h
  · cases h

theorem map_erase {α β : Type} (f : α → β) : ∀ (l : List α) (i : Nat), (l.eraseIdx i).map f = (l.map f).eraseIdx i
  | [], _ => rfl
  | _ :: _, 0 => rfl
  | a :: l, i + 1 => by simp [map_erase f l i]

theorem mapDel_sound {C : Ctx} {s : MS} {o : Oper} {c : Call} {t t' : TypeId} {m k : Operand} (ho : o.op = .call c) (hc : c.callee = .builtin .delete) (hargs : c.args.toList = [m, k]) (hts : c.argTypes.toList = [t, t']) {v : V} {δ : List (Nat × Obj)} (h : mapDel P s.H t (opd s.τ m) (opd s.τ k) = some (v, δ)) :
    OpM P C o s fun v' s' => v' = v ∧ s' = ⟨s.τ, putH s.H δ, s.n⟩ := by
  intro tm ds w γ I hS
  have h1 : c.args = #[m, k] := by rw [← Array.toArray_toList (xs := c.args), hargs]
  have h2 : c.argTypes = #[t, t'] := by rw [← Array.toArray_toList (xs := c.argTypes), hts]
  unfold mapDel at h
  split at h
  · rename_i kt et ks hkv
    obtain ⟨hu, hk⟩ := mapKV_facts hkv
    split at h
    · rename_i id hm
      split at h
      · rename_i keys vs kv hH hkv'
        have hmr := hS.opd ds m
        rw [hm] at hmr
        obtain ⟨p, ents, clock, q1, q2, q3, q4, q5, q6, q7, q8⟩ := map_at hS hH hmr
        have hkr := kvOf_rep hkv' (hS.opd ds k)
        have hok := kvOf_ok hkv'
        have hlen : ents.size = keys.length := by rw [← q6]; simp
        split at h
        · rename_i i hi
          cases h
          obtain ⟨g1, g2⟩ := idx_facts hk hok hi w ents.isEmpty q6
          have hi' := hi
          unfold idxOf at hi'
          split at hi'
          · have hil := keyFind_ge hi'
            simp only [Nat.sub_zero] at hil
            have hil' : i < ents.size := by omega
            have hent : ents[i]? = some ents[i] := by simp [hil']
            simp only [Option.bind_some, Array.getElem?_toList, hent, Option.map_some] at g2
            have herase : (ents.eraseIdxIfInBounds i).toList = ents.toList.eraseIdx i := by
              simp [Array.eraseIdxIfInBounds, hil']
            refine .inl ⟨.tuple #[], _, _, _, γ, I, ?_, ⟨rfl, rfl⟩, map_set hS hH q3 q4 (ents' := ents.eraseIdxIfInBounds i) (clock' := clock) (keys' := keys.eraseIdx i) (vs' := vs.eraseIdx i) ?_ ?_ ?_ ?_, .sc _ _⟩
            · simp only [execOp, ho, resolve, hc, h1, h2, List.map_toArray, List.map_cons, List.map_nil, invoke, builtin, Builtin.delete_]
              have e1 : Act.eval ⟨tm, ds⟩ m = .map (some p.blk) := q2
              simp [run_underlying hu, e1, hkr, run_getMap q3, g1, g2, run_setMap q3]
            · simp [List.length_eraseIdx, q5]
            · rw [herase, ← q6, map_erase]
            · intro e he
              have : e ∈ ents.toList.eraseIdx i := by rw [← herase]; exact Array.mem_toList_iff.2 he
              exact q7 e (by simpa using List.mem_of_mem_eraseIdx this)
            · intro j x e hx he
              rw [← Array.getElem?_toList, herase, List.getElem?_eraseIdx] at he
              rw [List.getElem?_eraseIdx] at hx
              split at he
              · rename_i hj; rw [if_pos hj] at hx; exact q8 _ x e hx (by simpa using he)
              · rename_i hj; rw [if_neg hj] at hx; exact q8 _ x e hx (by simpa using he)
          · cases hi'
        · rename_i hi
          cases h
          obtain ⟨g1, g2⟩ := idx_facts hk hok hi w ents.isEmpty q6
          simp only [Option.bind_none] at g2
          refine .inl ⟨.tuple #[], _, _, _, γ, I, ?_, ⟨rfl, rfl⟩, map_set hS hH q3 q4 (ents' := ents) (clock' := clock) (keys' := keys) (vs' := vs) q5 q6 q7 q8, .sc _ _⟩
          simp only [execOp, ho, resolve, hc, h1, h2, List.map_toArray, List.map_cons, List.map_nil, invoke, builtin, Builtin.delete_]
          have e1 : Act.eval ⟨tm, ds⟩ m = .map (some p.blk) := q2
          simp [run_underlying hu, e1, hkr, run_getMap q3, g1, g2, run_setMap q3]
        · cases h
      · cases h
    · cases h
  · cases h

theorem mapEv_sound {C : Ctx} {s : MS} {o : Oper} {v : V} {δ : List (Nat × Obj)} (h : mapEv P s.n (opd s.τ) s.H o = some (v, δ)) :
    OpM P C o s fun v' s' => v' = v ∧ s' = ⟨s.τ, putH s.H δ, s.n⟩ := by
  unfold mapEv at h
  split at h
  · rename_i t r ho; exact mapMake_sound ho h
  · rename_i t m k x ho; exact mapPut_sound ho h
  · rename_i t m k b ho; exact mapLook_sound ho h
  · rename_i c ho
    split at h
    · rename_i x t hc ha ht; exact mapLen_sound ho hc ha ht h
    · rename_i x y t t' hc ha ht; exact mapDel_sound ho hc ha ht h
    · cases h
  · cases h


theorem only_ext {ids : List Nat} {H : Heap} {id : Nat} {x : Ext} (h : only ids H id = .ext x) : H id = .ext x := by
  unfold only at h
  split at h
  · exact h
  · cases h
theorem only_unb {ids : List Nat} {H : Heap} {id : Nat} (h : only ids H id = .unborn) : H id = .unborn := by
  unfold only at h
  split at h
  · exact h
  · cases h
theorem mapOf_only {ids : List Nat} {H : Heap} {x : V} {r : List Value × List V} (h : mapOf (only ids H) x = some r) : mapOf H x = some r := by
  cases x with
  | mapr id =>
    simp only [mapOf] at h ⊢
    cases h3 : only ids H id with
    | ext x => rw [h3] at h; rw [only_ext h3]; exact h
    | _ => rw [h3] at h; cases h
  | mapf => exact h
  | _ => cases h
/-- Of the objects these are looked at. -/
theorem mapEv_of_only {ids : List Nat} {n : Nat} {ρ : Operand → V} {H : Heap} {o : Oper} {r : V × List (Nat × Obj)} (h : mapEv P n ρ (only ids H) o = some r) : mapEv P n ρ H o = some r := by
  unfold mapEv at h ⊢
  split at h
  · rename_i t r' _
    unfold mapMake at h ⊢
    cases h1 : mapKV P t with
    | none => simp [h1] at h
    | some q =>
      simp only [h1] at h ⊢
      generalize r'.map ρ = vr at h ⊢
      have key : ∀ {f : Option (V × List (Nat × Obj))}, (match only ids H n with | .unborn => f | _ => none) = some r → (match H n with | .unborn => f | _ => none) = some r := fun {f} hh => by
        cases h3 : only ids H n with
        | unborn => rw [h3] at hh; rw [only_unb h3]; exact hh
        | _ => rw [h3] at hh; cases hh
      cases vr with
      | none => exact key h
      | some v =>
        cases v with
        | sc u => cases u <;> first | (cases h; done) | exact key h
        | _ => cases h
  · rename_i t m k x _
    unfold mapPut at h ⊢
    cases h1 : mapKV P t with
    | none => simp [h1] at h
    | some q =>
      obtain ⟨kt, et, ks⟩ := q
      simp only [h1] at h ⊢
      generalize ρ m = vm at h ⊢
      cases vm with
      | mapr id =>
        simp only at h ⊢
        cases h3 : only ids H id with
        | ext x => rw [h3] at h; rw [only_ext h3]; exact h
        | _ => rw [h3] at h; cases h
      | _ => cases h
  · rename_i t m k b _
    unfold mapLook at h ⊢
    cases h1 : mapKV P t with
    | none => simp [h1] at h
    | some q =>
      obtain ⟨kt, et, ks⟩ := q
      simp only [h1] at h ⊢
      cases h3 : mapOf (only ids H) (ρ m) with
      | none => rw [h3] at h; cases h
      | some q => rw [h3] at h; rw [mapOf_only h3]; exact h
  · split at h
    · rename_i x t _ _ _
      unfold mapLen at h ⊢
      cases h1 : P.underlying t with
      | none => simp [h1] at h
      | some d =>
        cases d with
        | map kt et =>
          simp only [h1] at h ⊢
          cases h3 : mapOf (only ids H) (ρ x) with
          | none => rw [h3] at h; cases h
          | some q => rw [h3] at h; rw [mapOf_only h3]; exact h
        | _ => rw [h1] at h; cases h
    · rename_i x y t _ _ _ _
      unfold mapDel at h ⊢
      cases h1 : mapKV P t with
      | none => simp [h1] at h
      | some q =>
        obtain ⟨kt, et, ks⟩ := q
        simp only [h1] at h ⊢
        generalize ρ x = vm at h ⊢
        cases vm with
        | mapr id =>
          simp only at h ⊢
          cases h3 : only ids H id with
          | ext x => rw [h3] at h; rw [only_ext h3]; exact h
          | _ => rw [h3] at h; cases h
        | _ => cases h
    · cases h
  · cases h

theorem lands_map {C : Ctx} {γ : Places} {I : Imm} {τ : Nat → V} {H : Heap} {w : World} {a : Act} {o : Oper} {v : V} {n : Nat} {δ : List (Nat × Obj)} (hS : Sim C γ I τ H a.tmps w) (h : mapEv P n (opd τ) H o = some (v, δ)) : Lands C P o a w τ (putH H δ) v := by
  rcases mapEv_sound (C := C) (s := ⟨τ, H, n⟩) h a.tmps a.defers w γ I hS with ⟨u, w', v', s', γ', I', h1, ⟨rfl, rfl⟩, h3, h4⟩ | ⟨w', s', γ', I', h1, ⟨h2, rfl⟩, h3⟩
  · exact lands_value h1 h3 h4
  · rw [← h2]; exact lands_skip h1 h3

end Go.Idl
