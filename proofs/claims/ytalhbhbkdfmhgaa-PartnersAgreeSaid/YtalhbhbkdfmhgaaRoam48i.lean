/- To agree, in plain words. -/
import Derived.Test.YtalhbhbkdfmhgaaRoam48h
namespace Go.Proofs.Ytalhbhbkdfmhgaa
set_option linter.all false
open Go.Idl
set_option maxHeartbeats 1000000
theorem sub_len {α : Type} : ∀ {l m : List α}, l.Nodup → (∀ x, x ∈ l → x ∈ m) → l.length ≤ m.length
  | [], _, _, _ => Nat.zero_le _
  | x :: l, m, hn, hs => by
    rw [List.nodup_cons] at hn
    obtain ⟨s, t, rfl⟩ := List.append_of_mem (hs x (by simp))
    have := sub_len (m := s ++ t) hn.2 fun y hy => by
      have h1 := hs y (by simp [hy])
      have h2 : y ≠ x := fun e => hn.1 (e ▸ hy)
      simp only [List.mem_append, List.mem_cons] at h1 ⊢
      rcases h1 with h | h | h
      · exact .inl h
      · exact absurd h h2
      · exact .inr h
    simp only [List.length_append, List.length_cons] at this ⊢
    omega
theorem sub_eq {α : Type} {l m : List α} (hl : l.Nodup) (he : l.length = m.length) (hs : ∀ x, x ∈ l → x ∈ m) : ∀ x, x ∈ m → x ∈ l := by
  intro x hx
  by_cases h : x ∈ l
  · exact h
  · have := sub_len (l := x :: l) (m := m) (List.nodup_cons.2 ⟨h, hl⟩) fun y hy => by
      rcases List.mem_cons.1 hy with rfl | hy
      · exact hx
      · exact hs y hy
    rw [List.length_cons] at this
    omega
theorem nodup_of_map {α β : Type} {f : α → β} {l : List α} (h : (l.map f).Nodup) : l.Nodup := by
  induction l with
  | nil => exact List.nodup_nil
  | cons x l ih =>
    rw [List.map_cons, List.nodup_cons] at h
    exact List.nodup_cons.2 ⟨fun hx => h.1 (List.mem_map_of_mem hx), ih h.2⟩
theorem pairB_comm (a b : ByteArray) (c : CdrD) : pairB a b c = pairB b a c := by unfold pairB; exact Bool.or_comm _ _
theorem eqDs_iff' {a b : Disp} : (fun x y => eqDs y x) a b = true ↔ a = b := by
  show eqDs b a = true ↔ _
  rw [eqDs_iff]; exact eq_comm
theorem has_iff {a b : PartyD} (wa : WP a) (wb : WP b) : hasS a b = true ↔ (∀ c, c ∈ a.cdrs → pairB a.name b.name c = true → c ∈ b.cdrs) ∧ ∀ d, d ∈ a.disputes → pairD a.cdrs a.name b.name d = true → d ∈ b.disputes := by
  rw [hasS, Bool.and_eq_true, List.all_eq_true, List.all_eq_true]
  have h1 : ∀ c, okRec a b c = true ↔ (pairB a.name b.name c = true → c ∈ b.cdrs) := fun c => by
    rw [okRec, Bool.or_eq_true, sameAt_mem eqC_iff wb.ids, Bool.not_eq_true']
    cases pairB a.name b.name c <;> simp
  have h2 : ∀ d, d ∈ a.disputes → (okDis a b d = true ↔ (pairD a.cdrs a.name b.name d = true → d ∈ b.disputes)) := fun d hd => by
    have ha := wa.about d hd
    rw [hasI_get] at ha
    cases hg : getI CdrD.id a.cdrs d.cdr with
    | none => rw [hg] at ha; cases ha
    | some c =>
      obtain ⟨hc, he⟩ := mem_get hg
      have hp : pairD a.cdrs a.name b.name d = pairB a.name b.name c := by
        cases hb : pairB a.name b.name c with
        | true =>
          rw [pairD, List.any_eq_true]
          exact ⟨c, hc, by rw [hb, he]; simp⟩
        | false =>
          cases hh : pairD a.cdrs a.name b.name d with
          | false => rfl
          | true =>
            rw [pairD, List.any_eq_true] at hh
            obtain ⟨x, hx, hy⟩ := hh
            rw [Bool.and_eq_true, decide_eq_true_eq] at hy
            have := get_mem wa.ids hx
            rw [hy.2, hg] at this
            cases this
            rw [hy.1] at hb; cases hb
      rw [okDis, hg]
      dsimp only
      rw [Bool.or_eq_true, sameAt_mem eqDs_iff' wb.dids, Bool.not_eq_true', hp]
      cases pairB a.name b.name c <;> simp
  constructor
  · rintro ⟨g1, g2⟩
    exact ⟨fun c hc => (h1 c).1 (g1 c hc), fun d hd => (h2 d hd).1 (g2 d hd)⟩
  · rintro ⟨g1, g2⟩
    exact ⟨fun c hc => (h1 c).2 (g1 c hc), fun d hd => (h2 d hd).2 (g2 d hd)⟩
theorem agr_iff {a b : PartyD} (wb : WP b) : agrS a b = true ↔ ((prR a a.name b.name).length = (prR b a.name b.name).length ∧ ∀ c, c ∈ prR a a.name b.name → c ∈ prR b a.name b.name) ∧ (pairDs a a.name b.name).length = (pairDs b a.name b.name).length ∧ ∀ c, c ∈ pairDs a a.name b.name → c ∈ pairDs b a.name b.name := by
  have n1 : ((prR b a.name b.name).map CdrD.id).Nodup := (List.filter_sublist.map _).nodup wb.ids
  have n2 : ((pairDs b a.name b.name).map Disp.cdr).Nodup := (List.filter_sublist.map _).nodup wb.dids
  simp only [agrS, agrR, agrD, Bool.and_eq_true, decide_eq_true_eq, List.all_eq_true, sameAt_mem eqC_iff n1, sameAt_mem eqDs_iff' n2, and_assoc]
theorem agr_law {a b : PartyD} (wa : WP a) (wb : WP b) : agrS a b = (hasS a b && hasS b a) := by
  have n1 : (prR a a.name b.name).Nodup := List.filter_sublist.nodup (nodup_of_map wa.ids)
  have n2 : (prR b a.name b.name).Nodup := List.filter_sublist.nodup (nodup_of_map wb.ids)
  have n3 : (pairDs a a.name b.name).Nodup := List.filter_sublist.nodup (nodup_of_map wa.dids)
  have n4 : (pairDs b a.name b.name).Nodup := List.filter_sublist.nodup (nodup_of_map wb.dids)
  rw [Bool.eq_iff_iff, Bool.and_eq_true, has_iff wa wb, has_iff wb wa, agr_iff wb]
  have pc : ∀ c, pairB b.name a.name c = pairB a.name b.name c := pairB_comm _ _
  have pd : ∀ cs d, pairD cs b.name a.name d = pairD cs a.name b.name d := fun cs d => by unfold pairD; simp only [pc]
  simp only [pc, pd]
  constructor
  · rintro ⟨⟨e1, s1⟩, e2, s2⟩
    have t1 := sub_eq n1 e1 s1
    have t2 := sub_eq n3 e2 s2
    refine ⟨⟨fun c hc hp => (List.mem_filter.1 (s1 c (List.mem_filter.2 ⟨hc, hp⟩))).1, fun d hd hp => (List.mem_filter.1 (s2 d (List.mem_filter.2 ⟨hd, hp⟩))).1⟩,
      fun c hc hp => (List.mem_filter.1 (t1 c (List.mem_filter.2 ⟨hc, hp⟩))).1, fun d hd hp => (List.mem_filter.1 (t2 d (List.mem_filter.2 ⟨hd, hp⟩))).1⟩
  · rintro ⟨⟨a1, a2⟩, b1, b2⟩
    have s1 : ∀ c, c ∈ prR a a.name b.name → c ∈ prR b a.name b.name := fun c hc => by
      obtain ⟨h1, h2⟩ := List.mem_filter.1 hc
      exact List.mem_filter.2 ⟨a1 c h1 h2, h2⟩
    have t1 : ∀ c, c ∈ prR b a.name b.name → c ∈ prR a a.name b.name := fun c hc => by
      obtain ⟨h1, h2⟩ := List.mem_filter.1 hc
      exact List.mem_filter.2 ⟨b1 c h1 h2, h2⟩
    have mv : ∀ (cs cs' : List CdrD), (∀ c, c ∈ cs → pairB a.name b.name c = true → c ∈ cs') → ∀ d, pairD cs a.name b.name d = true → pairD cs' a.name b.name d = true := fun cs cs' hh d hd => by
      rw [pairD, List.any_eq_true] at hd ⊢
      obtain ⟨c, hc, hp⟩ := hd
      rw [Bool.and_eq_true] at hp
      exact ⟨c, hh c hc hp.1, by rw [hp.1, hp.2]; rfl⟩
    have s2 : ∀ d, d ∈ pairDs a a.name b.name → d ∈ pairDs b a.name b.name := fun d hd => by
      obtain ⟨h1, h2⟩ := List.mem_filter.1 hd
      exact List.mem_filter.2 ⟨a2 d h1 h2, mv _ _ a1 d h2⟩
    have t2 : ∀ d, d ∈ pairDs b a.name b.name → d ∈ pairDs a a.name b.name := fun d hd => by
      obtain ⟨h1, h2⟩ := List.mem_filter.1 hd
      exact List.mem_filter.2 ⟨b2 d h1 h2, mv _ _ b1 d h2⟩
    have l1 := sub_len n1 s1
    have l2 := sub_len n2 t1
    have l3 := sub_len n3 s2
    have l4 := sub_len n4 t2
    exact ⟨⟨by omega, s1⟩, by omega, s2⟩
end Go.Proofs.Ytalhbhbkdfmhgaa
