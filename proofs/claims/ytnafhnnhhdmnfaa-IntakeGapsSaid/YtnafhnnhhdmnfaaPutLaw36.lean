/- Putting an event: the plain law. -/
import Derived.Test.YtnafhnnhhdmnfaaRef36
namespace Go.Proofs.Ytnafhnnhhdmnfaa
set_option linter.all false
open Go.Idl
theorem bef_key {a b c d : EvD} (h1 : keyE a = keyE c) (h2 : keyE b = keyE d) : bef a b = bef c d := by unfold bef; rw [h1, h2]
theorem Coll.uniq {l : List EvD} (h : Coll l) {x y : EvD} (hx : x ∈ l) (hy : y ∈ l) (hk : keyE x = keyE y) : x = y := by
  obtain ⟨i, hi, rfl⟩ := List.mem_iff_getElem.1 hx
  obtain ⟨j, hj, rfl⟩ := List.mem_iff_getElem.1 hy
  have hp := List.pairwise_iff_getElem.1 h.ord
  by_cases e : i = j
  · subst e; rfl
  · exfalso
    by_cases e2 : i < j
    · have := (hp i j hi hj e2).1
      rw [bef_key hk rfl, bef_irrefl] at this; cases this
    · have := (hp j i hj hi (by omega)).1
      rw [bef_key rfl hk, bef_irrefl] at this; cases this
theorem bef_le {a b : EvD} (h : bef a b = true) : cmpT (keyE a) (keyE b) ≤ 0 := by
  rw [bef_iff] at h
  omega
theorem dw_ge {l : List EvD} (hp : l.Pairwise fun a b => cmpT (keyE a) (keyE b) ≤ 0) (k : KeyD) : ∀ x ∈ l.dropWhile (lessK k), 0 ≤ cmpT (keyE x) k := by
  induction l with
  | nil => simp
  | cons a l ih =>
    rw [List.pairwise_cons] at hp
    cases hb : lessK k a with
    | true => rw [List.dropWhile_cons_of_pos hb]; exact ih hp.2
    | false =>
      rw [List.dropWhile_cons_of_neg (by simp [hb])]
      simp only [lessK, decide_eq_false_iff_not] at hb
      intro x hx
      rcases List.mem_cons.1 hx with rfl | hx
      · omega
      · have h1 := hp.1 x hx
        apply Int.not_lt.1
        intro h2
        exact hb (cmpT_le_lt h1 h2)
theorem dw_gt {l : List EvD} (hp : l.Pairwise fun a b => cmpT (keyE a) (keyE b) ≤ 0) (k : KeyD) (hge : ∀ x ∈ l, 0 ≤ cmpT (keyE x) k) : ∀ x ∈ l.dropWhile (sameK k), 0 < cmpT (keyE x) k := by
  induction l with
  | nil => simp
  | cons a l ih =>
    rw [List.pairwise_cons] at hp
    cases hb : sameK k a with
    | true => rw [List.dropWhile_cons_of_pos hb]; exact ih hp.2 fun x hx => hge x (by simp [hx])
    | false =>
      rw [List.dropWhile_cons_of_neg (by simp [hb])]
      have h0 := hge a (by simp)
      simp only [sameK, beq_eq_false_iff_ne, ne_eq] at hb
      intro x hx
      rcases List.mem_cons.1 hx with rfl | hx
      · omega
      · have h1 := hp.1 x hx
        apply Int.not_le.1
        intro h2
        have := cmpT_le_le h1 h2
        omega
theorem Coll.le2 {l : List EvD} (h : Coll l) : l.Pairwise fun a b => cmpT (keyE a) (keyE b) ≤ 0 := h.ord.imp fun h => bef_le h.1
theorem segB_eq (l : List EvD) (k : KeyD) : segB l k = (l.dropWhile (lessK k)).takeWhile (sameK k) := by
  have h1 : l.drop (fromB l k) = l.dropWhile (lessK k) := by
    conv => lhs; arg 2; rw [← List.takeWhile_append_dropWhile (p := lessK k) (l := l)]
    rw [fromB, List.drop_left]
  unfold segB
  rw [List.drop_take]
  have : toB l k - fromB l k = ((l.dropWhile (lessK k)).takeWhile (sameK k)).length := by
    unfold toB; rw [h1]; omega
  rw [this, h1]
  conv => lhs; arg 2; rw [← List.takeWhile_append_dropWhile (p := sameK k) (l := l.dropWhile (lessK k))]
  rw [List.take_left]
theorem seg_split {l : List EvD} (hC : Coll l) (k : KeyD) : ∃ L R, l = L ++ (segB l k ++ R) ∧ L.length = fromB l k ∧ (∀ x ∈ L, cmpT (keyE x) k < 0) ∧ (∀ x ∈ segB l k, cmpT (keyE x) k = 0) ∧ ∀ x ∈ R, 0 < cmpT (keyE x) k := by
  refine ⟨l.takeWhile (lessK k), (l.dropWhile (lessK k)).dropWhile (sameK k), ?_, rfl, fun x hx => ?_, fun x hx => ?_, ?_⟩
  · rw [segB_eq, List.takeWhile_append_dropWhile, List.takeWhile_append_dropWhile]
  · have := List.all_eq_true.1 List.all_takeWhile x hx
    simpa [lessK] using this
  · rw [segB_eq] at hx
    have := List.all_eq_true.1 List.all_takeWhile x hx
    simpa [sameK] using this
  · exact dw_gt (hC.le2.sublist (List.dropWhile_sublist _)) k (dw_ge hC.le2 k)
theorem seg_mem {l : List EvD} (hC : Coll l) (k : KeyD) {x : EvD} : x ∈ segB l k ↔ x ∈ l ∧ cmpT (keyE x) k = 0 := by
  obtain ⟨L, R, h1, h2, h3, h4, h5⟩ := seg_split hC k
  constructor
  · intro h; exact ⟨by rw [h1]; simp [h], h4 x h⟩
  · rintro ⟨h, h0⟩
    rw [h1, List.mem_append, List.mem_append] at h
    rcases h with h | h | h
    · have := h3 x h; omega
    · exact h
    · have := h5 x h; omega
theorem seg_filter {l : List EvD} (hC : Coll l) (k : KeyD) : segB l k = l.filter (sameK k) := by
  obtain ⟨L, R, h1, h2, h3, h4, h5⟩ := seg_split hC k
  conv => rhs; rw [h1]
  rw [List.filter_append, List.filter_append, List.filter_eq_nil_iff.2 fun x hx => ?_, List.filter_eq_self.2 fun x hx => ?_, List.filter_eq_nil_iff.2 fun x hx => ?_]
  · simp
  · have := h5 x hx; simp [sameK]; omega
  · simp [sameK, h4 x hx]
  · have := h3 x hx; simp [sameK]; omega
theorem tw_filter {α : Type} {p : α → Bool} : ∀ {l : List α}, l.Pairwise (fun a b => p b = true → p a = true) → l.takeWhile p = l.filter p
  | [], _ => rfl
  | x :: l, h => by
    rw [List.pairwise_cons] at h
    cases hp : p x with
    | true => rw [List.takeWhile_cons_of_pos hp, List.filter_cons_of_pos hp, tw_filter h.2]
    | false =>
      rw [List.takeWhile_cons_of_neg (by simp [hp]), List.filter_cons_of_neg (by simp [hp]), List.filter_eq_nil_iff.2 fun y hy hb => ?_]
      have := h.1 y hy hb
      rw [hp] at this; cases this
theorem kAt_cmp (a : KeyD) (e : EvD) : cmpT a (kAt e.station e.txn) = cmpT a (keyE e) := rfl
theorem atR_filter {l : List EvD} (hC : Coll l) (e : EvD) : l.takeWhile (fun x => bef x e) = l.filter fun x => bef x e := tw_filter (hC.ord.imp fun h hb => bef_trans h.1 hb)
theorem place_at {l : List EvD} (hC : Coll l) (e : EvD) : placeB l e = atR l e := by
  obtain ⟨L, R, h1, h2, h3, h4, h5⟩ := seg_split hC (kAt e.station e.txn)
  unfold placeB atR cntB
  rw [atR_filter hC, ← h2]
  generalize segB l (kAt e.station e.txn) = S at *
  have f1 : L.filter (fun x => bef x e) = L := List.filter_eq_self.2 fun x hx => by
    have := h3 x hx
    rw [kAt_cmp] at this
    rw [bef_iff]; omega
  have f2 : R.filter (fun x => bef x e) = [] := List.filter_eq_nil_iff.2 fun x hx => by
    have := h5 x hx
    rw [kAt_cmp] at this
    rw [bef_iff]; omega
  have f3 : S.filter (fun x => bef x e) = S.filter fun x => decide (x.seq < e.seq) := List.filter_congr fun x hx => by
    have := h4 x hx
    rw [kAt_cmp] at this
    rw [Bool.eq_iff_iff, bef_iff]; simp [this]
  rw [h1, List.filter_append, List.filter_append, f1, f2, f3]
  simp
theorem hit_key {e x : EvD} : hitR e x = true ↔ keyE x = keyE e := by
  simp [hitR, one, keyE, and_assoc]
theorem key_cmp {a b : EvD} (h : keyE a = keyE b) : cmpT (keyE a) (keyE b) = 0 := by rw [h]; exact cmpT_eq.2 ⟨rfl, rfl⟩
theorem putS_eq {l : List EvD} (hC : Coll l) (e : EvD) : putS l e = putR l e := by
  unfold putS putR
  cases h : (evS e != 0)
  · simp only [cond_false]
    have hany : ((segB l (kAt e.station e.txn)).any fun x => contra x e) = l.any fun x => one x e && contra x e := by
      rw [Bool.eq_iff_iff, List.any_eq_true, List.any_eq_true]
      constructor
      · rintro ⟨x, hx, hc⟩
        obtain ⟨m1, m2⟩ := (seg_mem hC _).1 hx
        exact ⟨x, m1, by rw [hc, (one_iff x e).2 m2]; rfl⟩
      · rintro ⟨x, hx, hc⟩
        simp only [Bool.and_eq_true] at hc
        exact ⟨x, (seg_mem hC _).2 ⟨hx, (one_iff x e).1 hc.1⟩, hc.2⟩
    cases hlk : lookM (idxE (segB l (kAt e.station e.txn))) (keyE e) with
    | some x =>
      obtain ⟨m1, m2⟩ := look_idx hlk
      have m3 := ((seg_mem hC _).1 m1).1
      cases hf : l.find? (hitR e) with
      | none => exact absurd (hit_key.2 m2) (by have := List.find?_eq_none.1 hf x m3; simpa using this)
      | some y =>
        have m4 := List.mem_of_find?_eq_some hf
        have m5 := hit_key.1 (List.find?_some hf)
        have := hC.uniq m3 m4 (m2.trans m5.symm)
        subst this
        rfl
    | none =>
      cases hf : l.find? (hitR e) with
      | some y =>
        have m4 := List.mem_of_find?_eq_some hf
        have m5 := hit_key.1 (List.find?_some hf)
        exact absurd m5 (look_idx0 hlk y ((seg_mem hC _).2 ⟨m4, key_cmp m5⟩))
      | none =>
        dsimp only
        rw [hany, place_at hC]
  · rfl
theorem putR_coll {l : List EvD} (hC : Coll l) (e : EvD) : Coll (putR l e).1 := by
  unfold putR
  cases h : (evS e != 0)
  · simp only [cond_false]
    cases hf : l.find? (hitR e) with
    | some x => dsimp only; cases sameE x e <;> exact hC
    | none =>
      dsimp only
      cases ha : (l.any fun x => one x e && contra x e)
      · simp only [cond_false]
        by_cases hn : l.length ≥ 4096
        · simp only [hn, decide_true, cond_true]; exact hC
        · simp only [hn, decide_false, cond_false]
          have hct : ∀ x ∈ l, one x e = true → contra x e = false := fun x hx ho => by
            have := List.any_eq_false.1 ha x hx
            simpa [ho] using this
          have hnk : ∀ x ∈ l, keyE x ≠ keyE e := fun x hx hk => by
            have := List.find?_eq_none.1 hf x hx
            exact this (hit_key.2 hk)
          have htk : l.take (atR l e) = l.takeWhile fun x => bef x e := by
            conv => lhs; arg 2; rw [← List.takeWhile_append_dropWhile (p := fun x => bef x e) (l := l)]
            rw [atR, List.take_left]
          have hdr : l.drop (atR l e) = l.dropWhile fun x => bef x e := by
            conv => lhs; arg 2; rw [← List.takeWhile_append_dropWhile (p := fun x => bef x e) (l := l)]
            rw [atR, List.drop_left]
          have hlo : ∀ x ∈ l.take (atR l e), bef x e = true := fun x hx => by
            rw [htk] at hx; exact List.all_eq_true.1 List.all_takeWhile x hx
          have hhi : ∀ x ∈ l.drop (atR l e), bef x e = false := fun x hx => by
            have hx2 := hx
            have hl : l = l.take (atR l e) ++ l.drop (atR l e) := (List.take_append_drop _ _).symm
            rw [hdr] at hx
            have hp := hC.ord
            have hd : (l.dropWhile fun x => bef x e).Pairwise good2 := hp.sublist (List.dropWhile_sublist _)
            cases hq : l.dropWhile (fun x => bef x e) with
            | nil => rw [hq] at hx; simp at hx
            | cons y ys =>
              have hy : bef y e = false := by
                have := List.head?_dropWhile_not (fun x => bef x e) l
                rw [hq] at this
                simpa using this
              rw [hq] at hx hd
              rcases List.mem_cons.1 hx with rfl | hx
              · exact hy
              · rw [List.pairwise_cons] at hd
                rw [Bool.eq_false_iff]
                intro hb
                rw [bef_trans (hd.1 x hx).1 hb] at hy
                cases hy
          have hhi2 : ∀ x ∈ l.drop (atR l e), bef e x = true := fun x hx => by
            rcases bef_tri x e with h | h | h
            · rw [hhi x hx] at h; cases h
            · exact h
            · exact absurd h (hnk x (List.mem_of_mem_drop hx))
          refine ⟨fun x hx => ?_, ?_, ?_⟩
          · simp only [List.mem_append, List.mem_singleton] at hx
            rcases hx with (hx | rfl) | hx
            · exact hC.ok x (List.mem_of_mem_take hx)
            · simpa using h
            · exact hC.ok x (List.mem_of_mem_drop hx)
          · rw [List.append_assoc, List.pairwise_append]
            refine ⟨hC.ord.sublist (List.take_sublist _ _), ?_, fun a ha b hb => ?_⟩
            · rw [List.singleton_append, List.pairwise_cons]
              refine ⟨fun x hx => ⟨hhi2 x hx, fun ho => ?_⟩, hC.ord.sublist (List.drop_sublist _ _)⟩
              rw [contra_comm]; exact hct x (List.mem_of_mem_drop hx) (by rw [one_comm]; exact ho)
            · simp only [List.singleton_append, List.mem_cons] at hb
              rcases hb with rfl | hb
              · exact ⟨hlo a ha, fun ho => hct a (List.mem_of_mem_take ha) ho⟩
              · have hp := hC.ord
                rw [← List.take_append_drop (atR l e) l, List.pairwise_append] at hp
                exact hp.2.2 a ha b hb
          · simp; omega
      · exact hC
  · exact hC
end Go.Proofs.Ytnafhnnhhdmnfaa
