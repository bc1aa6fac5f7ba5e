/- Collections by their members: the order in which events come has no effect. -/
import Derived.Test.YtnafhnnhhdmnfaaPutLaw36
namespace Go.Proofs.Ytnafhnnhhdmnfaa
set_option linter.all false
open Go.Idl
theorem sorted_ext : ∀ {a b : List EvD}, a.Pairwise (fun x y => bef x y = true) → b.Pairwise (fun x y => bef x y = true) → (∀ x, x ∈ a ↔ x ∈ b) → a = b
  | [], [], _, _, _ => rfl
  | [], y :: _, _, _, h => absurd ((h y).2 (by simp)) (by simp)
  | x :: _, [], _, _, h => absurd ((h x).1 (by simp)) (by simp)
  | x :: a, y :: b, ha, hb, h => by
    rw [List.pairwise_cons] at ha hb
    have hxy : x = y := by
      rcases List.mem_cons.1 ((h x).1 (by simp)) with e | e
      · exact e
      · rcases List.mem_cons.1 ((h y).2 (by simp)) with e2 | e2
        · exact e2.symm
        · have h1 := hb.1 x e
          have h2 := ha.1 y e2
          have := bef_trans h1 h2
          rw [bef_irrefl] at this; cases this
    subst hxy
    have na : x ∉ a := fun hx => by have := ha.1 x hx; rw [bef_irrefl] at this; cases this
    have nb : x ∉ b := fun hx => by have := hb.1 x hx; rw [bef_irrefl] at this; cases this
    rw [sorted_ext ha.2 hb.2 fun z => ?_]
    constructor
    · intro hz
      rcases List.mem_cons.1 ((h z).1 (by simp [hz])) with e | e
      · subst e; exact absurd hz na
      · exact e
    · intro hz
      rcases List.mem_cons.1 ((h z).2 (by simp [hz])) with e | e
      · subst e; exact absurd hz nb
      · exact e
theorem Coll.bef {l : List EvD} (h : Coll l) : l.Pairwise fun x y => Proofs.Ytnafhnnhhdmnfaa.bef x y = true := h.ord.imp fun h => h.1
theorem coll_ext {a b : List EvD} (ha : Coll a) (hb : Coll b) (h : ∀ x, x ∈ a ↔ x ∈ b) : a = b := sorted_ext ha.bef hb.bef h
def okP (f : Int) : Bool := f == 0 || f == 9
/-- What an accepted put does to the members. -/
theorem put_mem {l : List EvD} {e : EvD} (h : okP (putR l e).2 = true) : ∀ x, x ∈ (putR l e).1 ↔ x ∈ l ∨ x = e := by
  unfold putR at h ⊢
  cases h1 : (evS e != 0)
  · rw [h1] at h
    simp only [cond_false] at h ⊢
    cases hf : l.find? (hitR e) with
    | some x =>
      rw [hf] at h
      dsimp only at h ⊢
      cases hs : sameE x e
      · rw [hs] at h; simp [okP] at h
      · have := sameE_iff.1 hs
        subst this
        have hm := List.mem_of_find?_eq_some hf
        intro y
        simp only [cond_true]
        constructor
        · exact .inl
        · rintro (h | rfl)
          · exact h
          · exact hm
    | none =>
      rw [hf] at h
      dsimp only at h ⊢
      cases ha : (l.any fun x => one x e && contra x e)
      · rw [ha] at h
        simp only [cond_false] at h ⊢
        cases hn : decide (l.length ≥ 4096)
        · intro y
          simp only [cond_false]
          have : y ∈ l ↔ y ∈ l.take (atR l e) ∨ y ∈ l.drop (atR l e) := by rw [← List.mem_append, List.take_append_drop]
          rw [this]
          simp only [List.mem_append, List.mem_singleton]
          constructor
          · rintro ((h | h) | h)
            · exact .inl (.inl h)
            · exact .inr h
            · exact .inl (.inr h)
          · rintro ((h | h) | h)
            · exact .inl (.inl h)
            · exact .inr h
            · exact .inl (.inr h)
        · rw [hn] at h; simp [okP] at h
      · rw [ha] at h; simp [okP] at h
  · rw [h1] at h
    simp only [cond_true, okP] at h
    exfalso
    simp at h1
    have h9 : evS e ≠ 9 := by
      intro h9
      have : evS e ∈ [0, 1, 2, 3, 4] := by
        unfold evS
        cases (!okName e.station || !okName e.txn) <;> simp only [cond_true, cond_false]
        · cases (!numsS e) <;> simp only [cond_true, cond_false]
          · cases (kindS e != 0) <;> simp only [cond_true, cond_false]
            · unfold rdsS
              have hr : ∀ (p : Option Rdg) (l : List Rdg), rdsL p l ∈ [0, 1, 2, 3, (4 : Int)] := fun p l => by
                induction l generalizing p with
                | nil => simp [rdsL]
                | cons a l ih =>
                  rw [rdsL]
                  cases (!rdgOk a) <;> simp only [cond_true, cond_false]
                  · cases noMore p a <;> simp only [cond_true, cond_false]
                    · exact ih _
                    · simp
                  · simp
              cases decide (e.rds.length > 16) <;> simp only [cond_true, cond_false]
              · cases decide (e.rds.length = 0) <;> simp only [cond_true, cond_false]
                · cases (rdsL none e.rds != 0) <;> simp only [cond_true, cond_false]
                  · cases (lastT e.rds != e.time) <;> simp
                  · exact hr _ _
                · simp
              · simp
            · unfold kindS
              repeat' (first | (simp; done) | (split) | (rw [cond_eq_ite]))
          · simp
        · simp
      rw [h9] at this
      simp at this
    simp [h1, h9] at h
/-- Members of a collection can be put into any part of it. -/
theorem put_in {c l : List EvD} {e : EvD} (hc : Coll c) (hl : ∀ x ∈ l, x ∈ c) (hn : l.length < 4096) (he : e ∈ c) : okP (putR l e).2 = true := by
  unfold putR
  have h1 : (evS e != 0) = false := by simp [hc.ok e he]
  simp only [h1, cond_false]
  cases hf : l.find? (hitR e) with
  | some x =>
    have := hc.uniq (hl x (List.mem_of_find?_eq_some hf)) he (hit_key.1 (List.find?_some hf))
    subst this
    dsimp only
    rw [sameE_iff.2 rfl]; rfl
  | none =>
    dsimp only
    have ha : (l.any fun x => one x e && contra x e) = false := by
      rw [List.any_eq_false]
      intro x hx
      have hk : keyE x ≠ keyE e := fun hk => List.find?_eq_none.1 hf x hx (hit_key.2 hk)
      obtain ⟨i, hi, hxi⟩ := List.mem_iff_getElem.1 (hl x hx)
      obtain ⟨j, hj, hej⟩ := List.mem_iff_getElem.1 he
      have hp := List.pairwise_iff_getElem.1 hc.ord
      by_cases e1 : i < j
      · have := (hp i j hi hj e1).2
        rw [hxi, hej] at this
        cases ho : one x e with
        | false => simp
        | true => simp [this ho]
      · by_cases e2 : i = j
        · subst e2; rw [hxi] at hej; subst hej; exact absurd rfl hk
        · have := (hp j i hj hi (by omega)).2
          rw [hxi, hej] at this
          cases ho : one x e with
          | false => simp
          | true => rw [one_comm] at ho; simp [contra_comm x e, this ho]
    rw [ha, show decide (l.length ≥ 4096) = false by simp; omega]; rfl
theorem put_len (l : List EvD) (e : EvD) : (putR l e).1.length ≤ l.length + 1 := by
  unfold putR
  cases (evS e != 0) <;> simp only [cond_true, cond_false]
  · cases l.find? (hitR e) with
    | some x => dsimp only; cases sameE x e <;> simp only [cond_true, cond_false] <;> omega
    | none =>
      dsimp only
      cases (l.any fun x => one x e && contra x e) <;> simp only [cond_true, cond_false]
      · cases decide (l.length ≥ 4096) <;> simp only [cond_true, cond_false]
        · have := atR_le l e
          simp; omega
        · omega
      · omega
  · omega
def stepC (p : List EvD × Bool) (e : EvD) : List EvD × Bool := ((putS p.1 e).1, p.2 && okP (putS p.1 e).2)
def foldC (s : List EvD) (p : List EvD × Bool) : List EvD × Bool := s.foldl stepC p
theorem foldC_coll : ∀ (s : List EvD) (p : List EvD × Bool), Coll p.1 → Coll (foldC s p).1
  | [], _, h => h
  | e :: s, p, h => by
    simp only [foldC, List.foldl_cons]
    exact foldC_coll s _ (by unfold stepC; dsimp only; rw [putS_eq h]; exact putR_coll h e)
theorem foldC_false : ∀ (s : List EvD) (l : List EvD), (foldC s (l, false)).2 = false
  | [], _ => rfl
  | e :: s, l => by
    simp only [foldC, List.foldl_cons]
    exact foldC_false s _
theorem foldC_mem : ∀ (s : List EvD) (l : List EvD), Coll l → (foldC s (l, true)).2 = true → ∀ x, x ∈ (foldC s (l, true)).1 ↔ x ∈ l ∨ x ∈ s
  | [], l, _, _, x => by simp [foldC]
  | e :: s, l, hl, h, x => by
    simp only [foldC, List.foldl_cons] at h ⊢
    have hst : stepC (l, true) e = ((putR l e).1, okP (putR l e).2) := by simp [stepC, putS_eq hl]
    rw [hst] at h ⊢
    cases hok : okP (putR l e).2 with
    | false => rw [hok] at h; rw [show (s.foldl stepC ((putR l e).1, false)).2 = false from foldC_false s _] at h; cases h
    | true =>
      rw [hok] at h
      rw [show (x ∈ (s.foldl stepC ((putR l e).1, true)).1) = (x ∈ (foldC s ((putR l e).1, true)).1) from rfl, foldC_mem s _ (putR_coll hl e) h x, put_mem hok x]
      simp only [List.mem_cons]
      constructor
      · rintro ((h | h) | h)
        · exact .inl h
        · exact .inr (.inl h)
        · exact .inr (.inr h)
      · rintro (h | h | h)
        · exact .inl (.inl h)
        · exact .inl (.inr h)
        · exact .inr h
theorem foldC_ok {c : List EvD} (hc : Coll c) : ∀ (s : List EvD) (l : List EvD), Coll l → (∀ x ∈ l, x ∈ c) → (∀ x ∈ s, x ∈ c) → l.length + s.length ≤ 4096 → (foldC s (l, true)).2 = true
  | [], _, _, _, _, _ => rfl
  | e :: s, l, hl, h1, h2, hn => by
    have hst : stepC (l, true) e = ((putR l e).1, okP (putR l e).2) := by simp [stepC, putS_eq hl]
    have hok := put_in hc h1 (by simp at hn; omega) (h2 e (by simp))
    simp only [foldC, List.foldl_cons]
    rw [hst, hok]
    have hlen := put_len l e
    refine foldC_ok hc s _ (putR_coll hl e) (fun x hx => ?_) (fun x hx => h2 x (by simp [hx])) (by simp at hn; omega)
    rcases (put_mem hok x).1 hx with h | h
    · exact h1 x h
    · subst h; exact h2 _ (by simp)
theorem coll_nil : Coll [] := ⟨by simp, .nil, by simp⟩
/-- Two orders of the same events. -/
theorem foldC_same {s t : List EvD} (hs : (foldC s ([], true)).2 = true) (hm : ∀ x, x ∈ t ↔ x ∈ s) (hn : t.length ≤ 4096) : foldC t ([], true) = foldC s ([], true) := by
  have c1 := foldC_coll s ([], true) coll_nil
  have c2 := foldC_coll t ([], true) coll_nil
  have m1 := foldC_mem s [] coll_nil hs
  have k2 := foldC_ok c1 t [] coll_nil (by simp) (fun x hx => (m1 x).2 (.inr ((hm x).1 hx))) (by simpa using hn)
  have m2 := foldC_mem t [] coll_nil k2
  have e : (foldC t ([], true)).1 = (foldC s ([], true)).1 := coll_ext c2 c1 fun x => by rw [m1, m2, hm x]
  exact Prod.ext e (k2.trans hs.symm)
end Go.Proofs.Ytnafhnnhhdmnfaa
