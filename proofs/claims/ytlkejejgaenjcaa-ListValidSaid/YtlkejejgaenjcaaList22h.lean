/- What a change does: plain law. -/
import Derived.Test.YtlkejejgaenjcaaList22g
namespace Go.Proofs.Ytlkejejgaenjcaa
set_option linter.all false
open Go.Idl
set_option maxHeartbeats 1000000
def cTok (old : List TokD) : List TokD → List TokD → Int
  | _, [] => 0
  | a, t :: l => bif !(itemS t == 0) then itemS t else bif hasK a (kT t) then 9 else bif t.status == 0 && !hasK old (kT t) then 8 else cTok old (a ++ [t]) l
def keptT (ts : List TokD) (t : TokD) : Bool := !hasK ts (kT t)
def putT (t : TokD) : Bool := t.status != 0
def newT (l ts : List TokD) : List TokD := l.filter (keptT ts) ++ ts.filter putT
def changeS (l : TListD) (base v : Int) (ts : List TokD) : TListD × Int :=
  bif !(validL l == 0) then (l, validL l) else bif decide (v < 1) || decide (v > 2147483647) then (l, 2) else bif (base != l.version) || decide (v ≤ base) then (l, 11) else
  bif decide ((ts.length : Int) > 128) then (l, 3) else bif !(cTok l.tokens [] ts == 0) then (l, cTok l.tokens [] ts) else bif decide (((newT l.tokens ts).length : Int) > 128) then (l, 3) else (⟨v, srtT (newT l.tokens ts)⟩, 0)
/-- A token or a removal, right for a list. -/
def OkC (old : List TokD) (t : TokD) : Prop := itemS t = 0 ∧ (t.status = 0 → hasK old (kT t) = true)
theorem cTok_iff (old : List TokD) : ∀ (l a : List TokD), DisK a → (cTok old a l = 0 ↔ (∀ t, t ∈ l → OkC old t) ∧ DisK (a ++ l))
  | [], a, ha => by simp [cTok, ha]
  | t :: l, a, ha => by
    rw [cTok]
    cases h1 : itemS t == 0 with
    | false =>
      have h1' : itemS t ≠ 0 := by simpa using h1
      rw [Bool.not_false, cond_true]
      exact ⟨fun h => absurd h h1', fun h => absurd (h.1 t (by simp)).1 h1'⟩
    | true =>
      have h1' : itemS t = 0 := by simpa using h1
      rw [Bool.not_true, cond_false]
      cases h2 : hasK a (kT t) with
      | true =>
        rw [cond_true]
        refine ⟨fun h => absurd h (by decide), fun h => ?_⟩
        obtain ⟨x, hx, he⟩ := hasK_iff.1 h2
        have := h.2
        unfold DisK at this
        rw [List.pairwise_append] at this
        exact absurd he (this.2.2 x hx t (by simp))
      | false =>
        rw [cond_false]
        have hd : DisK (a ++ [t]) := by
          unfold DisK
          rw [List.pairwise_append]
          exact ⟨ha, by simp, fun x hx y hy => by
            have : y = t := by simpa using hy
            subst this
            exact hasK_not.1 h2 x hx⟩
        cases h3 : t.status == 0 && !hasK old (kT t) with
        | true =>
          rw [cond_true]
          simp only [Bool.and_eq_true, beq_iff_eq, Bool.not_eq_true'] at h3
          refine ⟨fun h => absurd h (by decide), fun h => ?_⟩
          have := (h.1 t (by simp)).2 h3.1
          rw [h3.2] at this
          cases this
        | false =>
          rw [cond_false, cTok_iff old l (a ++ [t]) hd]
          have hok : OkC old t := ⟨h1', fun hs => by
            rw [hs] at h3
            simpa using h3⟩
          constructor
          · rintro ⟨g1, g2⟩
            refine ⟨fun x hx => ?_, by simpa using g2⟩
            rcases List.mem_cons.1 hx with rfl | hx
            · exact hok
            · exact g1 x hx
          · rintro ⟨g1, g2⟩
            exact ⟨fun x hx => g1 x (by simp [hx]), by simpa using g2⟩
theorem item_name {t : TokD} (h : itemS t = 0) : okName t.id = true := by
  unfold itemS at h
  cases h0 : t.status == 0 with
  | true =>
    rw [h0, cond_true] at h
    cases hn : okName t.id with
    | true => rfl
    | false => rw [hn, Bool.not_false, cond_true] at h; cases h
  | false =>
    rw [h0, cond_false] at h
    exact tok_size h
theorem item_size {t : TokD} (h : itemS t = 0) : t.id.size ≤ 1000000 := by
  have := item_name h
  simp only [okName, Bool.and_eq_true, decide_eq_true_eq] at this
  omega
theorem item_tok {t : TokD} (h : itemS t = 0) (hs : t.status ≠ 0) : tokS t = 0 := by
  unfold itemS at h
  have : (t.status == 0) = false := by simpa using hs
  rwa [this, cond_false] at h
theorem item_rem {t : TokD} (h : itemS t = 0) (hs : t.status = 0) : t = remT t := by
  unfold itemS at h
  have h0 : (t.status == 0) = true := by simpa using hs
  rw [h0, cond_true] at h
  cases hn : okName t.id with
  | false => rw [hn, Bool.not_false, cond_true] at h; cases h
  | true =>
    rw [hn, Bool.not_true, cond_false] at h
    cases he : eqT t (remT t) with
    | true => exact eqT_iff.1 he
    | false => rw [he, Bool.not_false, cond_true] at h; cases h
theorem new_dis {l ts : List TokD} (hl : DisK l) (ht : DisK ts) : DisK (newT l ts) := by
  unfold DisK newT
  rw [List.pairwise_append]
  refine ⟨hl.filter _, ht.filter _, fun a ha b hb => ?_⟩
  have h1 : keptT ts a = true := (List.mem_filter.1 ha).2
  have h2 : hasK ts (kT a) = false := by simpa [keptT] using h1
  exact fun e => hasK_not.1 h2 b (List.mem_filter.1 hb).1 e.symm
theorem new_mem {l ts : List TokD} {x : TokD} : x ∈ newT l ts ↔ (x ∈ l ∧ hasK ts (kT x) = false) ∨ (x ∈ ts ∧ x.status ≠ 0) := by
  simp [newT, keptT, putT]
theorem dis_of {l : TListD} (h : WFL l) : DisK l.tokens := sorted_dis h.sorted
/-- What stands after a change is in order. -/
theorem change_wf {l : TListD} {base v : Int} {ts : List TokD} {r : TListD} (h : changeS l base v ts = (r, 0)) : WFL l ∧ 1 ≤ v ∧ v ≤ 2147483647 ∧ base = l.version ∧ base < v ∧ ts.length ≤ 128 ∧ (∀ t, t ∈ ts → OkC l.tokens t) ∧ DisK ts ∧ (newT l.tokens ts).length ≤ 128 ∧ r = ⟨v, srtT (newT l.tokens ts)⟩ := by
  unfold changeS at h
  cases e1 : validL l == 0 with
  | false =>
    rw [e1, Bool.not_false, cond_true] at h
    have := congrArg Prod.snd h
    simp at e1
    exact absurd this e1
  | true =>
    rw [e1, Bool.not_true, cond_false] at h
    cases e2 : decide (v < 1) || decide (v > 2147483647) with
    | true => rw [e2, cond_true] at h; cases congrArg Prod.snd h
    | false =>
      rw [e2, cond_false] at h
      cases e3 : (base != l.version) || decide (v ≤ base) with
      | true => rw [e3, cond_true] at h; cases congrArg Prod.snd h
      | false =>
        rw [e3, cond_false] at h
        cases e4 : decide ((ts.length : Int) > 128) with
        | true => rw [e4, cond_true] at h; cases congrArg Prod.snd h
        | false =>
          rw [e4, cond_false] at h
          cases e5 : cTok l.tokens [] ts == 0 with
          | false =>
            rw [e5, Bool.not_false, cond_true] at h
            have := congrArg Prod.snd h
            simp at e5
            exact absurd this e5
          | true =>
            rw [e5, Bool.not_true, cond_false] at h
            cases e6 : decide (((newT l.tokens ts).length : Int) > 128) with
            | true => rw [e6, cond_true] at h; cases congrArg Prod.snd h
            | false =>
              rw [e6, cond_false] at h
              have h1 := (valid_iff l).1 (by simpa using e1)
              obtain ⟨h2, h3⟩ := (cTok_iff l.tokens ts [] .nil).1 (by simpa using e5)
              simp at e2 e3 e4 e6
              exact ⟨h1, by omega, by omega, e3.1, by omega, by omega, h2, by simpa using h3, by omega, (congrArg Prod.fst h).symm⟩
theorem change_ok {l : TListD} {base v : Int} {ts : List TokD} (h : WFL l) (h1 : 1 ≤ v) (h2 : v ≤ 2147483647) (h3 : base = l.version) (h4 : base < v) (h5 : ts.length ≤ 128) (h6 : ∀ t, t ∈ ts → OkC l.tokens t) (h7 : DisK ts)
    (h8 : (newT l.tokens ts).length ≤ 128) : changeS l base v ts = (⟨v, srtT (newT l.tokens ts)⟩, 0) := by
  unfold changeS
  have e1 : (validL l == 0) = true := by simpa using (valid_iff l).2 h
  have e2 : (decide (v < 1) || decide (v > 2147483647)) = false := by simp; omega
  have e3 : ((base != l.version) || decide (v ≤ base)) = false := by simp [h3]; omega
  have e4 : decide ((ts.length : Int) > 128) = false := by simp; omega
  have e5 : (cTok l.tokens [] ts == 0) = true := by simpa using (cTok_iff l.tokens ts [] .nil).2 ⟨h6, by simpa using h7⟩
  have e6 : decide (((newT l.tokens ts).length : Int) > 128) = false := by simp; omega
  rw [e1, e2, e3, e4, e5, e6]
  rfl
/-- The list after a change is valid. -/
theorem after_wf {l : TListD} {v : Int} {ts : List TokD} (h : WFL l) (h1 : 1 ≤ v) (h2 : v ≤ 2147483647) (h6 : ∀ t, t ∈ ts → OkC l.tokens t) (h7 : DisK ts) (h8 : (newT l.tokens ts).length ≤ 128) : WFL ⟨v, srtT (newT l.tokens ts)⟩ := by
  have hd := new_dis (dis_of h) h7
  have hp := sort_perm hd
  refine ⟨by dsimp only; omega, h2, by rw [hp.length_eq]; exact h8, fun h0 => by dsimp only at h0; omega, fun t ht => ?_, sort_sorted hd⟩
  rcases new_mem.1 (hp.mem_iff.1 ht) with ⟨g1, _⟩ | ⟨g1, g2⟩
  · exact h.ok t g1
  · exact item_tok (h6 t g1).1 g2
end Go.Proofs.Ytlkejejgaenjcaa
