/- The order of keys; lists in order. -/
import Derived.Test.YtoccifhckpjfaaaIntake
namespace Go.Proofs.Ytoccifhckpjfaaa
set_option linter.all false
open Go.Idl
theorem cmpT_def (a b : KeyD) : cmpT a b = if cmpS a.station b.station = 0 then cmpS a.txn b.txn else cmpS a.station b.station := by
  unfold cmpT
  by_cases h : cmpS a.station b.station = 0
  · simp only [firstNZ, h, ne_eq, not_true, if_false, if_true]
    split
    · rfl
    · rename_i h2; simp at h2; exact h2.symm
  · simp [firstNZ, h]
theorem cmpK_def (a b : KeyD) : cmpK a b = if cmpT a b = 0 then cmpI a.seq b.seq else cmpT a b := by
  unfold cmpK
  by_cases h : cmpT a b = 0
  · simp only [firstNZ, h, ne_eq, not_true, if_false, if_true]
    split
    · rfl
    · rename_i h2; simp at h2; exact h2.symm
  · simp [firstNZ, h]
theorem cmpT_anti (a b : KeyD) : cmpT b a = - cmpT a b := by
  rw [cmpT_def, cmpT_def, cmpS_anti a.station b.station, cmpS_anti a.txn b.txn]
  by_cases h : cmpS a.station b.station = 0
  · simp [h]
  · simp [h]
theorem cmpT_trans {a b c : KeyD} (h1 : cmpT a b < 0) (h2 : cmpT b c < 0) : cmpT a c < 0 := by
  rw [cmpT_def] at h1 h2 ⊢
  by_cases e1 : cmpS a.station b.station = 0
  · have q1 := cmpS_eq.1 e1
    rw [if_pos e1] at h1
    rw [q1]
    by_cases e2 : cmpS b.station c.station = 0
    · rw [if_pos e2] at h2 ⊢; exact cmpS_trans h1 h2
    · rw [if_neg e2] at h2 ⊢; exact h2
  · rw [if_neg e1] at h1
    by_cases e2 : cmpS b.station c.station = 0
    · have q2 := cmpS_eq.1 e2
      rw [← q2, if_neg e1]; exact h1
    · rw [if_neg e2] at h2
      have := cmpS_trans h1 h2
      rw [if_neg (by omega)]; exact this
theorem cmpT_congr {a b : KeyD} (h : cmpT a b = 0) (c : KeyD) : cmpT a c = cmpT b c := by
  obtain ⟨e1, e2⟩ := cmpT_eq.1 h
  rw [cmpT_def, cmpT_def, e1, e2]
theorem cmpT_congr' {b c : KeyD} (h : cmpT b c = 0) (a : KeyD) : cmpT a b = cmpT a c := by
  obtain ⟨e1, e2⟩ := cmpT_eq.1 h
  rw [cmpT_def, cmpT_def, e1, e2]
theorem cmpI_lt {a b : Int} : cmpI a b < 0 ↔ a < b := by unfold cmpI; split <;> (try split) <;> omega
theorem bef_iff (a b : EvD) : bef a b = true ↔ cmpT (keyE a) (keyE b) < 0 ∨ (cmpT (keyE a) (keyE b) = 0 ∧ a.seq < b.seq) := by
  simp only [bef, decide_eq_true_eq, cmpK_def]
  by_cases h : cmpT (keyE a) (keyE b) = 0
  · rw [if_pos h, cmpI_lt, h]; simp [keyE]
  · rw [if_neg h]; simp [h]
theorem bef_trans {a b c : EvD} (h1 : bef a b = true) (h2 : bef b c = true) : bef a c = true := by
  rw [bef_iff] at *
  rcases h1 with h1 | ⟨h1, h1'⟩
  · rcases h2 with h2 | ⟨h2, h2'⟩
    · exact .inl (cmpT_trans h1 h2)
    · rw [← cmpT_congr' h2]; exact .inl h1
  · rcases h2 with h2 | ⟨h2, h2'⟩
    · rw [cmpT_congr h1]; exact .inl h2
    · rw [cmpT_congr h1]; exact .inr ⟨h2, by omega⟩
theorem bef_tri (a b : EvD) : bef a b = true ∨ bef b a = true ∨ keyE a = keyE b := by
  rw [bef_iff, bef_iff, cmpT_anti (keyE a) (keyE b)]
  by_cases h : cmpT (keyE a) (keyE b) = 0
  · obtain ⟨e1, e2⟩ := cmpT_eq.1 h
    simp only [keyE] at e1 e2
    by_cases h2 : a.seq < b.seq
    · exact .inl (.inr ⟨h, h2⟩)
    · by_cases h3 : b.seq < a.seq
      · exact .inr (.inl (.inr ⟨by omega, h3⟩))
      · refine .inr (.inr ?_)
        simp only [keyE, KeyD.mk.injEq]
        exact ⟨e1, e2, by omega⟩
  · by_cases h2 : cmpT (keyE a) (keyE b) < 0
    · exact .inl (.inl h2)
    · exact .inr (.inl (.inl (by omega)))
theorem one_iff (a b : EvD) : one a b = true ↔ cmpT (keyE a) (keyE b) = 0 := by rw [one_cmp]; simp
theorem contra_lt {a b : EvD} (h : a.seq < b.seq) : contra a b = false ↔ a.kind ≠ 3 ∧ a.time ≤ b.time := by
  have h1 : decide (a.seq < b.seq) = true := by simpa using h
  simp only [contra, h1, cond_true]
  simp
theorem contra_comm (a b : EvD) : contra a b = contra b a := by
  unfold contra
  by_cases h1 : a.seq < b.seq
  · have h2 : ¬ b.seq < a.seq := by omega
    simp [h1, h2]
  · by_cases h2 : b.seq < a.seq
    · simp [h1, h2]
    · simp [h1, h2]
theorem one_comm (a b : EvD) : one a b = one b a := by
  rw [Bool.eq_iff_iff, one_iff, one_iff, cmpT_anti (keyE a) (keyE b)]; omega
theorem contra_trans {a b c : EvD} (h1 : bef a b = true) (h2 : bef b c = true) (h : one a c = true) (k1 : one a b = true → contra a b = false) (k2 : one b c = true → contra b c = false) : contra a c = false := by
  rw [one_iff] at *
  rw [bef_iff] at h1 h2
  have e1 : cmpT (keyE a) (keyE b) = 0 := by
    rcases h1 with h1 | h1
    · exfalso
      have : cmpT (keyE b) (keyE c) ≤ 0 := by rcases h2 with h2 | h2 <;> omega
      have h3 := cmpT_anti (keyE a) (keyE c)
      have h4 : cmpT (keyE c) (keyE b) < 0 := by rw [← cmpT_congr h]; exact h1
      have h5 := cmpT_anti (keyE c) (keyE b)
      omega
    · exact h1.1
  have e2 : cmpT (keyE b) (keyE c) = 0 := by rw [← cmpT_congr e1]; exact h
  have s1 : a.seq < b.seq := by rcases h1 with h1 | h1; omega; exact h1.2
  have s2 : b.seq < c.seq := by rcases h2 with h2 | h2; omega; exact h2.2
  have q1 := (contra_lt s1).1 (k1 e1)
  have q2 := (contra_lt s2).1 (k2 e2)
  exact (contra_lt (by omega)).2 ⟨q1.1, by omega⟩
theorem badP_false {q e : EvD} : badP (some q) e = false ↔ bef q e = true ∧ (one q e = true → contra q e = false) := by
  simp only [badP, Bool.or_eq_false_iff, Bool.not_eq_false', Bool.and_eq_false_iff]
  constructor
  · rintro ⟨h1, h2⟩
    refine ⟨h1, fun h => ?_⟩
    rcases h2 with h2 | h2
    · rw [h2] at h; cases h
    · exact h2
  · rintro ⟨h1, h2⟩
    refine ⟨h1, ?_⟩
    cases h : one q e with
    | false => exact .inl rfl
    | true => exact .inr (h2 h)
def good2 (a b : EvD) : Prop := bef a b = true ∧ (one a b = true → contra a b = false)
theorem good2_trans {a b c : EvD} (h1 : good2 a b) (h2 : good2 b c) : good2 a c := ⟨bef_trans h1.1 h2.1, fun h => contra_trans h1.1 h2.1 h h1.2 h2.2⟩
theorem colL_ok : ∀ (p : Option EvD) (l : List EvD), colL p l = 0 ↔ (∀ e ∈ l, evS e = 0) ∧ l.Pairwise good2 ∧ (∀ q, p = some q → ∀ e ∈ l, good2 q e)
  | p, [] => by simp [colL]
  | p, e :: l => by
    rw [colL]
    by_cases h1 : evS e = 0
    · rw [show (evS e != 0) = false by simp [h1]]
      simp only [cond_false]
      have ih := colL_ok (some e) l
      cases hb : badP p e with
      | true =>
        simp only [cond_true, List.mem_cons, forall_eq_or_imp, List.pairwise_cons]
        constructor
        · intro h; cases h
        · rintro ⟨_, _, h⟩
          exfalso
          cases p with
          | none => simp [badP] at hb
          | some q =>
            have := badP_false.2 (h q rfl).1
            rw [hb] at this; cases this
      | false =>
        simp only [cond_false, ih, List.mem_cons, forall_eq_or_imp, List.pairwise_cons]
        constructor
        · rintro ⟨g1, g2, g3⟩
          refine ⟨⟨h1, g1⟩, ⟨g3 e rfl, g2⟩, fun q hq => ?_⟩
          subst hq
          have hqe := badP_false.1 hb
          exact ⟨hqe, fun x hx => good2_trans hqe (g3 e rfl x hx)⟩
        · rintro ⟨⟨_, g1⟩, ⟨g2, g3⟩, _⟩
          exact ⟨g1, g3, fun q hq x hx => by cases hq; exact g2 x hx⟩
    · rw [show (evS e != 0) = true by simp [h1]]
      simp only [cond_true, List.mem_cons, forall_eq_or_imp]
      constructor
      · intro h; exact absurd h h1
      · rintro ⟨⟨h, _⟩, _⟩; exact absurd h h1
structure Coll (l : List EvD) : Prop where
  ok : ∀ e ∈ l, evS e = 0
  ord : l.Pairwise good2
  len : l.length ≤ 4096
theorem colS_ok {l : List EvD} : colS l = 0 ↔ Coll l := by
  unfold colS
  by_cases h : l.length > 4096
  · simp only [h, decide_true, cond_true]
    constructor
    · intro h; cases h
    · rintro ⟨_, _, h'⟩; omega
  · simp only [h, decide_false, cond_false]
    rw [colL_ok]
    constructor
    · rintro ⟨h1, h2, _⟩; exact ⟨h1, h2, by omega⟩
    · rintro ⟨h1, h2, _⟩; exact ⟨h1, h2, fun q hq => by cases hq⟩
theorem ev_rds {e : EvD} (h : evS e = 0) : e.rds.length ≤ 16 := by
  unfold evS at h
  cases h1 : (!okName e.station || !okName e.txn)
  · cases h2 : (!numsS e)
    · cases h3 : (kindS e != 0)
      · simp only [h1, h2, h3, cond_false] at h
        unfold rdsS at h
        by_cases h4 : e.rds.length > 16
        · simp [h4] at h
        · omega
      · simp only [h1, h2, h3, cond_false, cond_true] at h
        rw [h] at h3
        simp at h3
    · simp [h1, h2] at h
  · simp [h1] at h
end Go.Proofs.Ytoccifhckpjfaaa
