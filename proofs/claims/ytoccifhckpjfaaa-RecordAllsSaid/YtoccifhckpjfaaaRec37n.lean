/- Records, the reference: Make. -/
import Derived.Test.YtoccifhckpjfaaaRec37m
namespace Go.Proofs.Ytoccifhckpjfaaa
set_option linter.all false
open Go.Idl
set_option maxHeartbeats 16000000
set_option maxRecDepth 100000
attribute [local go_sem] agRec agEv37 Try.underlying3 Try.underlying5 Try.underlying9 Try.underlying4 Try.underlying30 Try.underlying22 Try.underlying25
def gdE (l : List EvD) : Bool := decide (1 ≤ l.length) && decide (l.length ≤ 100000) && srtB l && keysB l && (badE l == 0)
structure GdE (l : List EvD) : Prop where
  n1 : 1 ≤ l.length
  n2 : l.length ≤ 100000
  srt : srtB l = true
  key : keysB l = true
  val : ∀ x, x ∈ l → evS x = 0
theorem gdE_iff {l : List EvD} : gdE l = true ↔ GdE l := by
  constructor
  · intro h
    simp only [gdE, Bool.and_eq_true, decide_eq_true_eq, beq_iff_eq] at h
    exact ⟨h.1.1.1.1, h.1.1.1.2, h.1.1.2, h.1.2, badE_zero h.2⟩
  · intro h
    simp only [gdE, Bool.and_eq_true, decide_eq_true_eq, beq_iff_eq]
    exact ⟨⟨⟨⟨h.n1, h.n2⟩, h.srt⟩, h.key⟩, badE_of h.val⟩
theorem evS_end {e : EvD} (h : evS e = 0) (hk : e.kind = 3) : e.seq ≠ 0 := by
  unfold evS at h
  cases h1 : (!okName e.station || !okName e.txn) with
  | true => rw [h1, cond_true] at h; cases h
  | false =>
    rw [h1, cond_false] at h
    cases h2 : (!numsS e) with
    | true => rw [h2, cond_true] at h; cases h
    | false =>
      rw [h2, cond_false] at h
      cases h4 : (kindS e != 0) with
      | true => rw [h4, cond_true] at h; simp [h] at h4
      | false =>
        have h5 : kindS e = 0 := by simpa using h4
        intro h0
        unfold kindS at h5
        rw [hk, h0] at h5
        cases h6 : (decide (e.reason < 1) || decide (e.reason > 6)) <;> simp [h6] at h5
theorem badM_any {c : Int} : ∀ {l : List EvD}, badM c l = true ↔ (∃ a x b, l = a ++ x :: b ∧ b ≠ [] ∧ x.kind = 3) ∨ ∃ x, x ∈ l ∧ x.conn ≠ c
  | [] => by simp [badM]
  | y :: l => by
    rw [badM, Bool.or_eq_true, Bool.or_eq_true, badM_any]
    constructor
    · rintro ((h | h) | (⟨a, x, b, h1, h2, h3⟩ | ⟨x, h1, h2⟩))
      · simp at h; exact .inl ⟨[], y, l, rfl, h.2, h.1⟩
      · exact .inr ⟨y, by simp, by simpa using h⟩
      · exact .inl ⟨y :: a, x, b, by rw [h1]; rfl, h2, h3⟩
      · exact .inr ⟨x, List.mem_cons_of_mem _ h1, h2⟩
    · rintro (⟨a, x, b, h1, h2, h3⟩ | ⟨x, h1, h2⟩)
      · cases a with
        | nil => simp at h1; obtain ⟨rfl, rfl⟩ := h1; exact .inl (.inl (by simp [h2, h3]))
        | cons z a => simp at h1; exact .inr (.inl ⟨a, x, b, h1.2, h2, h3⟩)
      · rcases List.mem_cons.1 h1 with rfl | h1
        · exact .inl (.inr (by simpa using h2))
        · exact .inr (.inr ⟨x, h1, h2⟩)
theorem cplW_eq {l : List EvD} (g : GdE l) : cplW l = bif !complS l then (dfE, 22) else bif badM (hdE l).conn l then (dfE, 1) else (ltE l, 0) := by
  have hp := srtB_pair g.srt
  obtain ⟨x0, l0, hl0⟩ : ∃ x l', l = x :: l' := by
    cases l with
    | nil => exact absurd g.n1 (by simp)
    | cons x l' => exact ⟨x, l', rfl⟩
  have hhd : hdE l = x0 := by rw [hl0]; rfl
  have h00 : 0 ≤ x0.seq := (evS_ok (g.val x0 (by rw [hl0]; simp))).1
  have hh0 : has0 l = (x0.seq == 0) := by
    rw [Bool.eq_iff_iff, beq_iff_eq]
    constructor
    · intro h
      obtain ⟨x, hx, hx0⟩ := List.any_eq_true.1 h
      have hx0 : x.seq = 0 := by simpa using hx0
      rw [hl0] at hx hp
      rcases List.mem_cons.1 hx with rfl | hx
      · exact hx0
      · have := (List.pairwise_cons.1 hp).1 x hx; omega
    · intro h
      exact List.any_eq_true.2 ⟨x0, by rw [hl0]; simp, by simpa using h⟩
  rcases fe_spec l 0 with ⟨q1, q2⟩ | ⟨a, E, b, q1, q2, q3, q4⟩
  · have hE : hasE l = false := by
      rw [hasE, List.any_eq_false]
      intro x hx h
      have := q2 x hx
      rw [Bool.and_eq_true] at h
      exact this (by simpa using h.2)
    rw [cplW, complS, hE, q1, Bool.and_false]; rfl
  · rw [Nat.zero_add] at q2
    have hEm : E ∈ l := by rw [q1]; simp
    have hE : hasE l = true := List.any_eq_true.2 ⟨E, hEm, by
      have := evS_end (g.val E hEm) q3
      simp [this, q3]⟩
    have hat : atE l (fe l 0).toNat = E := by rw [q2, Int.toNat_natCast, atE, q1]; simp
    have hneg : decide (fe l 0 < 0) = false := by rw [q2]; simp
    rw [cplW, hat, hhd, hneg, Bool.false_or, complS, hE, Bool.and_true, hh0]
    cases hs : (x0.seq == 0) with
    | false =>
      have : (x0.seq != 0) = true := by rw [bne, hs]; rfl
      rw [this]; rfl
    | true =>
      have : (x0.seq != 0) = false := by rw [bne, hs]; rfl
      rw [this, cond_false, Bool.not_true, cond_false]
      have hab : l.any (badW E x0) = badM x0.conn l := by
        rw [Bool.eq_iff_iff, badM_any, List.any_eq_true]
        constructor
        · rintro ⟨x, hx, h⟩
          rw [badW, Bool.or_eq_true] at h
          rcases h with h | h
          · refine .inl ⟨a, E, b, q1, fun hb => ?_, q3⟩
            have hlt : x.seq > E.seq := by simpa using h
            rw [q1, hb] at hx hp
            rcases List.mem_append.1 hx with hx | hx
            · have := (List.pairwise_append.1 hp).2.2 x hx E (by simp); omega
            · rw [List.mem_singleton] at hx; rw [hx] at hlt; omega
          · exact .inr ⟨x, hx, by simpa using h⟩
        · rintro (⟨a', x, b', h1, h2, h3⟩ | ⟨x, h1, h2⟩)
          · have hxl : x ∈ l := by rw [h1]; simp
            have hle : E.seq ≤ x.seq := by
              rcases Int.lt_or_le x.seq E.seq with hlt | hle
              · exfalso
                rw [q1] at hxl hp
                rcases List.mem_append.1 hxl with hx | hx
                · exact q4 x hx h3
                · rcases List.mem_cons.1 hx with rfl | hx
                  · omega
                  · have := (List.pairwise_cons.1 (List.pairwise_append.1 hp).2.1).1 x hx; omega
              · exact hle
            obtain ⟨z, hz⟩ := List.exists_mem_of_ne_nil b' h2
            have hxz : x.seq < z.seq := by
              rw [h1] at hp
              exact (List.pairwise_cons.1 (List.pairwise_append.1 hp).2.1).1 z hz
            exact ⟨z, by rw [h1]; simp [hz], by rw [badW, Bool.or_eq_true]; exact .inl (by simp; omega)⟩
          · exact ⟨x, h1, by rw [badW, Bool.or_eq_true]; exact .inr (by simpa using h2)⟩
      rw [hab]
      cases hb : badM x0.conn l with
      | true => rfl
      | false =>
        have := badM_end hb hEm q3
        rw [cond_false, cond_false, ltE, this]; rfl
abbrev SMkR : List V → Option V := FT fun (t : List EvD × Int × Unit) => if gdE t.1 = true then some (makeE t.1 t.2.1) else none
end Go.Proofs.Ytoccifhckpjfaaa
