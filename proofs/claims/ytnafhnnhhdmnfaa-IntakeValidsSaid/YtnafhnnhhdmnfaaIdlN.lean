/-
  A region whose order is drawn: where operations that Go does not order do not meet, every order comes to what the order of the text comes to.
-/
import Derived.Test.YtnafhnnhhdmnfaaIdlM
namespace Go.Idl
set_option linter.all false
open Go.RowKit

/-! ### What has been written last -/
section
variable {X : Type} (wr : Nat → Nat → Option X) (s0 : Nat → X)
/-- The value of a place behind those of the first m writers that have come. -/
def cur (S : Nat → Bool) : Nat → Nat → X
  | 0, x => s0 x
  | m + 1, x => if S m then (wr m x).getD (cur S m x) else cur S m x

theorem cur_congr {S S' : Nat → Bool} : ∀ {m : Nat} {x : Nat}, (∀ k, k < m → wr k x ≠ none → S k = S' k) → cur wr s0 S m x = cur wr s0 S' m x
  | 0, _, _ => rfl
  | m + 1, x, h => by
    have ih := cur_congr (S := S) (S' := S') (m := m) (x := x) (fun k hk => h k (by omega))
    simp only [cur, ih]
    cases hw : wr m x with
    | none => simp
    | some u => rw [h m (by omega) (by simp [hw])]

theorem cur_cut {S : Nat → Bool} : ∀ {m i : Nat} {x : Nat}, i ≤ m → (∀ k, i ≤ k → k < m → wr k x ≠ none → S k = false) → cur wr s0 S m x = cur wr s0 S i x
  | 0, i, x, hi, _ => by have : i = 0 := by omega
                         subst this; rfl
  | m + 1, i, x, hi, h => by
    by_cases e : i = m + 1
    · subst e; rfl
    · have ih := cur_cut (S := S) (m := m) (i := i) (x := x) (by omega) (fun k h1 h2 => h k h1 (by omega))
      simp only [cur]
      cases hw : wr m x with
      | none => simp [ih]
      | some u => rw [h m (by omega) (by omega) (by simp [hw])]; simp [ih]

/-- What an operation reads is what it reads in the order of the text. -/
theorem cur_read {S : Nat → Bool} {m i x : Nat} (hi : i ≤ m) (h : ∀ k, k < m → k ≠ i → wr k x ≠ none → (k < i → S k = true) ∧ (i < k → S k = false)) (hsi : S i = false) :
    cur wr s0 S m x = cur wr s0 (fun _ => true) i x := by
  rw [cur_cut wr s0 (i := i) hi (fun k h1 h2 hw => by
    by_cases e : k = i
    · subst e; exact hsi
    · exact (h k h2 e hw).2 (by omega))]
  exact cur_congr wr s0 fun k hk hw => (h k (by omega) (by omega) hw).1 hk

/-- What an operation writes is written last. -/
theorem cur_write {S S' : Nat → Bool} {i x : Nat} (hS' : ∀ k, S' k = if k = i then true else S k) : ∀ {m : Nat}, i < m → (wr i x ≠ none → ∀ k, i < k → k < m → wr k x ≠ none → S k = false) → S i = false →
    cur wr s0 S' m x = (wr i x).getD (cur wr s0 S m x)
  | 0, h, _, _ => by omega
  | m + 1, h, hk, hsi => by
    by_cases e : i = m
    · subst e
      have h1 : cur wr s0 S' i x = cur wr s0 S i x := cur_congr wr s0 fun k hk' _ => by rw [hS' k, if_neg (by omega)]
      simp only [cur, hS' i, if_true, h1, hsi]
      simp
    · have ih := cur_write hS' (m := m) (by omega) (fun hw k h1 h2 => hk hw k h1 (by omega)) hsi
      have e2 : S' m = S m := by rw [hS' m, if_neg (by omega)]
      simp only [cur, ih, e2]
      cases hw : wr i x with
      | none => simp
      | some u =>
        cases hm : wr m x with
        | none => simp
        | some u2 =>
          rw [hk (by simp [hw]) m (by omega) (by omega) (by simp [hm])]
          simp
end

/-! ### Which operation waits for which -/
def befM (acc : List Nat) (o : Oper) : Nat := o.after.toList.foldl (fun s e => if Region.binds .any e then s ||| 2 ^ e.on ||| acc.getD e.on 0 else s) 0
def befs : List Oper → List Nat → List Nat
  | [], acc => acc
  | o :: r, acc => befs r (acc ++ [befM acc o])

theorem befM_bit {acc : List Nat} {o : Oper} {j : Nat} (h : (befM acc o).testBit j = true) : ∃ e, e ∈ o.after ∧ Region.binds .any e = true ∧ (j = e.on ∨ (acc.getD e.on 0).testBit j = true) := by
  unfold befM at h
  have key : ∀ (l : List Edge) (s : Nat), (l.foldl (fun s e => if Region.binds .any e then s ||| 2 ^ e.on ||| acc.getD e.on 0 else s) s).testBit j = true →
      s.testBit j = true ∨ ∃ e, e ∈ l ∧ Region.binds .any e = true ∧ (j = e.on ∨ (acc.getD e.on 0).testBit j = true) := by
    intro l
    induction l with
    | nil => intro s h; exact .inl h
    | cons e l ih =>
      intro s h
      rw [List.foldl_cons] at h
      rcases ih _ h with h1 | ⟨e', he', hb, hh⟩
      · by_cases hb : Region.binds .any e = true
        · rw [if_pos hb, Nat.testBit_or, Nat.testBit_or] at h1
          simp only [Bool.or_eq_true] at h1
          rcases h1 with (h1 | h1) | h1
          · exact .inl h1
          · refine .inr ⟨e, by simp, hb, .inl ?_⟩
            rw [Nat.testBit_two_pow] at h1
            simpa using Eq.symm (by simpa using h1)
          · exact .inr ⟨e, by simp, hb, .inr h1⟩
        · rw [if_neg hb] at h1
          exact .inl h1
      · exact .inr ⟨e', by simp [he'], hb, hh⟩
  rcases key _ 0 h with h0 | ⟨e, he, hh⟩
  · simp at h0
  · exact ⟨e, by simpa using he, hh⟩

/-- Whoever has come, those whom he waits for have come. -/
def Down (ops : Array Oper) (S : Nat → Bool) : Prop := ∀ i o, ops[i]? = some o → S i = true → ∀ e, e ∈ o.after → Region.binds .any e = true → S e.on = true

theorem befs_down {ops : Array Oper} {S : Nat → Bool} (hd : Down ops S) : ∀ (l : List Oper) (acc : List Nat), (∀ k, l[k]? = ops[acc.length + k]?) →
    (∀ i j, (acc.getD i 0).testBit j = true → (∀ o, ops[i]? = some o → ∀ e, e ∈ o.after → Region.binds .any e = true → S e.on = true) → S j = true) →
    ∀ i j, ((befs l acc).getD i 0).testBit j = true → (∀ o, ops[i]? = some o → ∀ e, e ∈ o.after → Region.binds .any e = true → S e.on = true) → S j = true
  | [], acc, _, h => h
  | o :: r, acc, hl, h => by
    refine befs_down hd r (acc ++ [befM acc o]) (fun k => ?_) (fun i j hb hpre => ?_)
    · have := hl (k + 1)
      simp at this ⊢
      rw [this]
      congr 1
      omega
    · rcases Nat.lt_or_ge i acc.length with hi | hi
      · rw [List.getD_eq_getElem?_getD, List.getElem?_append_left hi, ← List.getD_eq_getElem?_getD] at hb
        exact h i j hb hpre
      · by_cases e : i = acc.length
        · subst e
          have ho : ops[acc.length]? = some o := by simpa using (hl 0).symm
          rw [List.getD_eq_getElem?_getD, List.getElem?_append_right (by omega)] at hb
          simp at hb
          obtain ⟨e, he, hbi, hh⟩ := befM_bit hb
          have hs := hpre o ho e he hbi
          rcases hh with rfl | hh
          · exact hs
          · exact h e.on j hh (fun o' ho' e' he' hb' => hd e.on o' ho' hs e' he' hb')
        · rw [List.getD_eq_getElem?_getD, List.getElem?_eq_none (by simp; omega)] at hb
          simp at hb

end Go.Idl
