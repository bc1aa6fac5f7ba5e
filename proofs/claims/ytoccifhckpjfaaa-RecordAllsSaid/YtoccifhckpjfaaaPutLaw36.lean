/- Putting an event: the plain law. -/
import Derived.Test.YtoccifhckpjfaaaRef36
namespace Go.Proofs.Ytoccifhckpjfaaa
set_option linter.all false
open Go.Idl
theorem bef_le {a b : EvD} (h : bef a b = true) : cmpT (keyE a) (keyE b) ≤ 0 := by
  rw [bef_iff] at h
  omega
theorem hit_key {e x : EvD} : hitR e x = true ↔ keyE x = keyE e := by
  simp [hitR, one, keyE, and_assoc]
theorem putR_coll {l : List EvD} (hC : Coll l) (e : EvD) : Coll (putR l e).1 := by
  unfold putR
  cases h : (evS e != 0)
  · simp only [cond_false]
    cases hf : l.find? (hitR e) with
    | some x => dsimp only; cases sameE x e <;> exact hC
    | none =>
      dsimp only
      cases ha : (l.any fun x => one x e && contra x e)
      · simp only [cond_false]
        by_cases hn : l.length ≥ 4096
        · simp only [hn, decide_true, cond_true]; exact hC
        · simp only [hn, decide_false, cond_false]
          have hct : ∀ x ∈ l, one x e = true → contra x e = false := fun x hx ho => by
            have := List.any_eq_false.1 ha x hx
            simpa [ho] using this
          have hnk : ∀ x ∈ l, keyE x ≠ keyE e := fun x hx hk => by
            have := List.find?_eq_none.1 hf x hx
            exact this (hit_key.2 hk)
          have htk : l.take (atR l e) = l.takeWhile fun x => bef x e := by
            conv => lhs; arg 2; rw [← List.takeWhile_append_dropWhile (p := fun x => bef x e) (l := l)]
            rw [atR, List.take_left]
          have hdr : l.drop (atR l e) = l.dropWhile fun x => bef x e := by
            conv => lhs; arg 2; rw [← List.takeWhile_append_dropWhile (p := fun x => bef x e) (l := l)]
            rw [atR, List.drop_left]
          have hlo : ∀ x ∈ l.take (atR l e), bef x e = true := fun x hx => by
            rw [htk] at hx; exact List.all_eq_true.1 List.all_takeWhile x hx
          have hhi : ∀ x ∈ l.drop (atR l e), bef x e = false := fun x hx => by
            have hx2 := hx
            have hl : l = l.take (atR l e) ++ l.drop (atR l e) := (List.take_append_drop _ _).symm
            rw [hdr] at hx
            have hp := hC.ord
            have hd : (l.dropWhile fun x => bef x e).Pairwise good2 := hp.sublist (List.dropWhile_sublist _)
            cases hq : l.dropWhile (fun x => bef x e) with
            | nil => rw [hq] at hx; simp at hx
            | cons y ys =>
              have hy : bef y e = false := by
                have := List.head?_dropWhile_not (fun x => bef x e) l
                rw [hq] at this
                simpa using this
              rw [hq] at hx hd
              rcases List.mem_cons.1 hx with rfl | hx
              · exact hy
              · rw [List.pairwise_cons] at hd
                rw [Bool.eq_false_iff]
                intro hb
                rw [bef_trans (hd.1 x hx).1 hb] at hy
                cases hy
          have hhi2 : ∀ x ∈ l.drop (atR l e), bef e x = true := fun x hx => by
            rcases bef_tri x e with h | h | h
            · rw [hhi x hx] at h; cases h
            · exact h
            · exact absurd h (hnk x (List.mem_of_mem_drop hx))
          refine ⟨fun x hx => ?_, ?_, ?_⟩
          · simp only [List.mem_append, List.mem_singleton] at hx
            rcases hx with (hx | rfl) | hx
            · exact hC.ok x (List.mem_of_mem_take hx)
            · simpa using h
            · exact hC.ok x (List.mem_of_mem_drop hx)
          · rw [List.append_assoc, List.pairwise_append]
            refine ⟨hC.ord.sublist (List.take_sublist _ _), ?_, fun a ha b hb => ?_⟩
            · rw [List.singleton_append, List.pairwise_cons]
              refine ⟨fun x hx => ⟨hhi2 x hx, fun ho => ?_⟩, hC.ord.sublist (List.drop_sublist _ _)⟩
              rw [contra_comm]; exact hct x (List.mem_of_mem_drop hx) (by rw [one_comm]; exact ho)
            · simp only [List.singleton_append, List.mem_cons] at hb
              rcases hb with rfl | hb
              · exact ⟨hlo a ha, fun ho => hct a (List.mem_of_mem_take ha) ho⟩
              · have hp := hC.ord
                rw [← List.take_append_drop (atR l e) l, List.pairwise_append] at hp
                exact hp.2.2 a ha b hb
          · simp; omega
      · exact hC
  · exact hC
end Go.Proofs.Ytoccifhckpjfaaa
