/- Directories as data: what is valid, what a store makes of it. -/
import Derived.Test.YtalhbhbkdfmhgaaDir45e
namespace Go.Proofs.Ytalhbhbkdfmhgaa
set_option linter.all false
open Go.Idl
set_option maxHeartbeats 1000000
structure WF (d : DirD) : Prop where
  name : okName d.party = true
  len : d.marks.length = d.objects.length
  max : d.objects.length ≤ 256
  chk : ∀ o, o ∈ d.objects → chkO o = 0
  keys : (d.objects.map keyO).Nodup
  inc : d.marks.Pairwise (· < ·)
  lo : ∀ m, m ∈ d.marks → 1 ≤ m
  hi : ∀ m, m ∈ d.marks → m < d.next
  n1 : 1 ≤ d.next
  n2 : d.next ≤ 4611686018427387904
theorem vObs_zero (next : Int) : ∀ (l : List (ObjD × Int)) (a : List ObjD) (b : Int), vObs next a b l = 0 ↔ (∀ p, p ∈ l → chkO p.1 = 0) ∧ (∀ p, p ∈ l → 1 ≤ p.2 ∧ p.2 < next) ∧ (l.map (·.2)).Pairwise (· < ·) ∧ (∀ p, p ∈ l → b < p.2) ∧ (l.map fun p => keyO p.1).Nodup ∧ (∀ p, p ∈ l → ∀ x, x ∈ a → keyO x ≠ keyO p.1)
  | [], a, b => by simp [vObs]
  | (o, m) :: l, a, b => by
    have ih := vObs_zero next l (a ++ [o]) m
    have hd : vObs next a b ((o, m) :: l) = bif !(chkO o == 0) then chkO o else bif hasK a o then 9 else bif badMk m b next then 1 else vObs next (a ++ [o]) m l := rfl
    rw [hd]
    by_cases h1 : chkO o = 0
    · have e1 : (chkO o == 0) = true := by simpa using h1
      rw [e1, Bool.not_true, cond_false]
      cases h2 : hasK a o with
      | true =>
        rw [cond_true]
        constructor
        · intro h; cases h
        · rintro ⟨_, _, _, _, _, hx⟩
          exfalso
          simp only [hasK, List.any_eq_true, decide_eq_true_eq] at h2
          obtain ⟨x, hx1, hx2⟩ := h2
          exact hx (o, m) (by simp) x hx1 hx2
      | false =>
        rw [cond_false]
        have hna : ∀ x, x ∈ a → keyO x ≠ keyO o := by
          intro x hx e
          simp only [hasK, List.any_eq_false, decide_eq_true_eq] at h2
          exact h2 x hx e
        cases h3 : badMk m b next with
        | true =>
          rw [cond_true]
          constructor
          · intro h; cases h
          · rintro ⟨_, h5, _, h6, _⟩
            exfalso
            have g1 := h5 (o, m) (by simp)
            have g2 := h6 (o, m) (by simp)
            simp [badMk] at h3
            omega
        | false =>
          rw [cond_false, ih]
          have hb : 1 ≤ m ∧ b < m ∧ m < next := by simp [badMk] at h3; omega
          constructor
          · rintro ⟨k1, k2, k3, k4, k5, k6⟩
            refine ⟨?_, ?_, ?_, ?_, ?_, ?_⟩
            · intro p hp
              rcases List.mem_cons.1 hp with rfl | hp
              · exact h1
              · exact k1 p hp
            · intro p hp
              rcases List.mem_cons.1 hp with rfl | hp
              · exact ⟨hb.1, hb.2.2⟩
              · exact k2 p hp
            · rw [List.map_cons, List.pairwise_cons]
              refine ⟨fun y hy => ?_, k3⟩
              obtain ⟨p, hp, rfl⟩ := List.mem_map.1 hy
              exact k4 p hp
            · intro p hp
              rcases List.mem_cons.1 hp with rfl | hp
              · exact hb.2.1
              · have := k4 p hp; omega
            · rw [List.map_cons, List.nodup_cons]
              refine ⟨fun hm => ?_, k5⟩
              obtain ⟨p, hp, e⟩ := List.mem_map.1 hm
              exact k6 p hp o (by simp) e.symm
            · intro p hp x hx
              rcases List.mem_cons.1 hp with rfl | hp
              · exact hna x hx
              · exact k6 p hp x (by simp [hx])
          · rintro ⟨k1, k2, k3, k4, k5, k6⟩
            rw [List.map_cons, List.pairwise_cons] at k3
            rw [List.map_cons, List.nodup_cons] at k5
            refine ⟨fun p hp => k1 p (by simp [hp]), fun p hp => k2 p (by simp [hp]), k3.2, fun p hp => k3.1 _ (List.mem_map.2 ⟨p, hp, rfl⟩), k5.2, fun p hp x hx => ?_⟩
            rcases List.mem_append.1 hx with hx | hx
            · exact k6 p (by simp [hp]) x hx
            · have : x = o := by simpa using hx
              subst this
              intro e
              exact k5.1 (List.mem_map.2 ⟨p, hp, e.symm⟩)
    · have e1 : (chkO o == 0) = false := by simpa using h1
      rw [e1, Bool.not_false, cond_true]
      constructor
      · intro h; exact absurd h h1
      · rintro ⟨k1, _⟩; exact absurd (k1 (o, m) (by simp)) h1
theorem valid_iff (d : DirD) : validDir d = 0 ↔ WF d := by
  unfold validDir
  cases h1 : okName d.party with
  | false =>
    rw [Bool.not_false, cond_true]
    exact ⟨fun h => absurd h (by decide), fun h => by have := h.name; rw [h1] at this; cases this⟩
  | true =>
    rw [Bool.not_true, cond_false]
    by_cases h2 : d.marks.length = d.objects.length
    · have e2 : decide (d.marks.length = d.objects.length) = true := by simpa using h2
      rw [e2, Bool.not_true, cond_false]
      by_cases h3 : d.objects.length ≤ 256
      · have e3 : decide (d.objects.length > 256) = false := by simp; omega
        rw [e3, cond_false]
        have hz1 : (d.objects.zip d.marks).map (·.1) = d.objects := List.map_fst_zip (by omega)
        have hz2 : (d.objects.zip d.marks).map (·.2) = d.marks := List.map_snd_zip (by omega)
        have hz3 : (d.objects.zip d.marks).map (fun p => keyO p.1) = d.objects.map keyO := by
          conv => rhs; rw [← hz1, List.map_map]
          rfl
        have hv := vObs_zero d.next (d.objects.zip d.marks) [] 0
        rw [hz2, hz3] at hv
        by_cases h4 : vObs d.next [] 0 (d.objects.zip d.marks) = 0
        · have e4 : (vObs d.next [] 0 (d.objects.zip d.marks) == 0) = true := by simpa using h4
          rw [e4, Bool.not_true, cond_false]
          obtain ⟨k1, k2, k3, k4, k5, k6⟩ := hv.1 h4
          constructor
          · intro h
            have h5 : ¬ (d.next < 1) ∧ ¬ (d.next > 4611686018427387904) := by
              by_cases g : d.next < 1 ∨ d.next > 4611686018427387904
              · have : (decide (d.next < 1) || decide (d.next > 4611686018427387904)) = true := by simpa using g
                rw [this] at h; cases h
              · omega
            refine ⟨h1, h2, h3, fun o ho => ?_, k5, k3, fun m hm => ?_, fun m hm => ?_, by omega, by omega⟩
            · rw [← hz1] at ho
              obtain ⟨p, hp, rfl⟩ := List.mem_map.1 ho
              exact k1 p hp
            · rw [← hz2] at hm
              obtain ⟨p, hp, rfl⟩ := List.mem_map.1 hm
              exact (k2 p hp).1
            · rw [← hz2] at hm
              obtain ⟨p, hp, rfl⟩ := List.mem_map.1 hm
              exact (k2 p hp).2
          · intro h
            have : (decide (d.next < 1) || decide (d.next > 4611686018427387904)) = false := by
              have := h.n1; have := h.n2
              simp; omega
            rw [this]; rfl
        · have e4 : (vObs d.next [] 0 (d.objects.zip d.marks) == 0) = false := by simpa using h4
          rw [e4, Bool.not_false, cond_true]
          refine ⟨fun h => absurd h h4, fun h => absurd (hv.2 ⟨fun p hp => h.chk _ ?_, fun p hp => ⟨h.lo _ ?_, h.hi _ ?_⟩, h.inc, fun p hp => ?_, h.keys, fun p hp x hx => by cases hx⟩) h4⟩
          · exact (List.of_mem_zip (show (p.1, p.2) ∈ d.objects.zip d.marks from hp)).1
          · exact (List.of_mem_zip (show (p.1, p.2) ∈ d.objects.zip d.marks from hp)).2
          · exact (List.of_mem_zip (show (p.1, p.2) ∈ d.objects.zip d.marks from hp)).2
          · have := h.lo _ (List.of_mem_zip (show (p.1, p.2) ∈ d.objects.zip d.marks from hp)).2
            omega
      · have e3 : decide (d.objects.length > 256) = true := by simp; omega
        rw [e3, cond_true]
        exact ⟨fun h => absurd h (by decide), fun h => absurd h.max h3⟩
    · have e2 : decide (d.marks.length = d.objects.length) = false := by simpa using h2
      rw [e2, Bool.not_false, cond_true]
      exact ⟨fun h => absurd h (by decide), fun h => absurd h.len h2⟩
end Go.Proofs.Ytalhbhbkdfmhgaa
