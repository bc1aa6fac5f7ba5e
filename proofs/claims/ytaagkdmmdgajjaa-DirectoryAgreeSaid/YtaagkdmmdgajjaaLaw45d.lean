/- What was stored in the meantime. -/
import Derived.Test.YtaagkdmmdgajjaaLaw45c
namespace Go.Proofs.Ytaagkdmmdgajjaa
set_option linter.all false
open Go.Idl
set_option maxHeartbeats 1000000

/-- e has come of d by stores. -/
structure ExtD (d e : DirD) : Prop where
  w : WF e
  ge : d.next ≤ e.next
  old : ∀ x, x ∈ mks e → x.mark < d.next → x ∈ mks d
  cov : ∀ x, x ∈ mks d → ∃ y, y ∈ mks e ∧ keyO y.object = keyO x.object ∧ x.object.version ≤ y.object.version
  new : ∀ y, y ∈ mks e → d.next ≤ y.mark → ∀ x, x ∈ mks d → keyO x.object = keyO y.object → x.object.version < y.object.version
theorem mks_hi {d : DirD} (h : WF d) : ∀ x, x ∈ mks d → x.mark < d.next := fun x hx => h.hi _ (by rw [← mks_mark h.len]; exact List.mem_map.2 ⟨x, hx, rfl⟩)
theorem ExtD.refl {d : DirD} (h : WF d) : ExtD d d :=
  ⟨h, Int.le_refl _, fun x hx _ => hx, fun x hx => ⟨x, hx, rfl, Int.le_refl _⟩, fun y hy hm => absurd (mks_hi h y hy) (by omega)⟩
theorem ExtD.store {d e : DirD} (h : ExtD d e) {o : ObjD} (hw : WF (storeD e o)) (hv : ∀ old, lookD e (keyO o) = some old → old.object.version < o.version) : ExtD d (storeD e o) := by
  have hm : mks (storeD e o) = (mks e).filter (notK (keyO o)) ++ [⟨o, e.next⟩] := mks_of _ _ _
  have hge := h.ge
  refine ⟨hw, by show d.next ≤ e.next + 1; omega, fun x hx hlt => ?_, fun x hx => ?_, fun y hy hge2 x hx hk => ?_⟩
  · rw [hm] at hx
    rcases List.mem_append.1 hx with h1 | h1
    · exact h.old x (List.mem_filter.1 h1).1 hlt
    · have : x = ⟨o, e.next⟩ := by simpa using h1
      subst this
      dsimp only at hlt
      omega
  · obtain ⟨y, hy, h1, h2⟩ := h.cov x hx
    by_cases e1 : keyO y.object = keyO o
    · have := hv y ((lookD_mem h.w _ _).2 ⟨hy, e1⟩)
      refine ⟨⟨o, e.next⟩, by rw [hm]; simp, e1.symm.trans h1, by dsimp only; omega⟩
    · refine ⟨y, ?_, h1, h2⟩
      rw [hm]
      exact List.mem_append.2 (.inl (List.mem_filter.2 ⟨hy, by simpa [notK] using e1⟩))
  · rw [hm] at hy
    rcases List.mem_append.1 hy with h1 | h1
    · exact h.new y (List.mem_filter.1 h1).1 hge2 x hx hk
    · have : y = ⟨o, e.next⟩ := by simpa using h1
      subst this
      obtain ⟨y', hy', h3, h4⟩ := h.cov x hx
      have := hv y' ((lookD_mem h.w _ _).2 ⟨hy', h3.trans hk⟩)
      dsimp only
      omega
theorem putS_more (d : DirD) (o : ObjD) : (∃ e, putS d o = (d, e)) ∨ (putS d o = (storeD d o, 0) ∧ ∀ old, lookD d (keyO o) = some old → old.object.version < o.version) := by
  unfold putS
  cases h1 : (chkO o == 0) with
  | false => exact .inl ⟨_, by rw [Bool.not_false, cond_true]⟩
  | true =>
    rw [Bool.not_true, cond_false]
    cases h2 : decide (o.owner = d.party) with
    | false => exact .inl ⟨_, by rw [Bool.not_false, cond_true]⟩
    | true =>
      rw [Bool.not_true, cond_false]
      cases h3 : lookD d (keyO o) with
      | some old =>
        dsimp only
        cases h4 : decide (o.version ≤ old.object.version) with
        | true => exact .inl ⟨_, by rw [cond_true]⟩
        | false => exact .inr ⟨by rw [cond_false], fun old' he => by cases he; simp at h4; omega⟩
      | none =>
        dsimp only
        cases h4 : decide ((d.objects.length : Int) ≥ 256) with
        | true => exact .inl ⟨_, by rw [cond_true]⟩
        | false => exact .inr ⟨by rw [cond_false], fun old' he => by cases he⟩
theorem ExtD.merge {d : DirD} {party : ByteArray} : ∀ {l : List ObjD} {b : Int} {c : DirD × Int}, ExtD d c.1 → OkD party b c.1 → b + l.length ≤ 4611686018427387904 → ExtD d (l.foldl mgS c).1
  | [], _, _, h, _, _ => h
  | o :: l, b, c, h, hk, hb => by
    rw [List.length_cons] at hb
    rw [List.foldl_cons]
    have h1 := mg_wf hk (by omega) o
    refine ExtD.merge (l := l) ?_ h1 (by omega)
    rcases mgS_more c o with e | ⟨e, _, hv⟩
    · rw [e]; exact h
    · have hw := h1.w
      rw [e] at hw ⊢
      exact h.store hw hv
theorem ExtD.call {d e : DirD} {party : ByteArray} {b : Int} (h : ExtD d e) (hk : OkD party b e) {x : OpD} (hx : x.objects.length ≤ 300) (hb : b + 300 ≤ 4611686018427387904) : ExtD d (callS e x).1 := by
  unfold callS
  cases h1 : (x.kind == 1 && decide ((x.objects.length : Int) > 0)) with
  | true =>
    rw [cond_true]
    cases h2 : x.objects[0]? with
    | none => exact h
    | some o =>
      dsimp only
      have hp := (hk.put (by omega) o).w
      rcases putS_more e o with ⟨z, h3⟩ | ⟨h3, hv⟩
      · rw [h3]; exact h
      · rw [h3] at hp ⊢; exact h.store hp hv
  | false =>
    rw [cond_false]
    cases h2 : (x.kind == 2) with
    | true =>
      rw [cond_true]
      exact ExtD.merge (c := (e, 0)) h hk (by omega)
    | false => rw [cond_false]; exact h
theorem newsD_mem : ∀ (l : List ObjD) (ms : List Int) (k : Int) (o : ObjD), o ∈ newsD l ms k ↔ ∃ p, p ∈ l.zip ms ∧ p.1 = o ∧ p.2 > k
  | [], _, _, _ => by simp [newsD]
  | _ :: _, [], _, _ => by simp [newsD]
  | x :: l, m :: ms, k, o => by
    have ih := newsD_mem l ms k o
    rw [newsD, List.zip_cons_cons]
    by_cases h : m > k
    · have e : decide (m > k) = true := by simpa using h
      rw [e, cond_true, List.mem_cons, ih]
      constructor
      · rintro (rfl | ⟨p, h1, h2⟩)
        · exact ⟨(o, m), by simp, rfl, h⟩
        · exact ⟨p, by simp [h1], h2⟩
      · rintro ⟨p, h1, h2⟩
        rcases List.mem_cons.1 h1 with rfl | h1
        · exact .inl h2.1.symm
        · exact .inr ⟨p, h1, h2⟩
    · have e : decide (m > k) = false := by simpa using h
      rw [e, cond_false, ih]
      constructor
      · rintro ⟨p, h1, h2⟩; exact ⟨p, by simp [h1], h2⟩
      · rintro ⟨p, h1, h2⟩
        rcases List.mem_cons.1 h1 with rfl | h1
        · exact absurd h2.2 h
        · exact ⟨p, h1, h2⟩
theorem news_mks {e : DirD} (k : Int) (o : ObjD) : o ∈ newsD e.objects e.marks k ↔ ∃ y, y ∈ mks e ∧ y.object = o ∧ y.mark > k := by
  rw [newsD_mem]
  constructor
  · rintro ⟨p, h1, h2, h3⟩; exact ⟨mkP p, List.mem_map.2 ⟨p, h1, rfl⟩, h2, h3⟩
  · rintro ⟨y, h1, h2, h3⟩
    obtain ⟨p, hp, rfl⟩ := List.mem_map.1 h1
    exact ⟨p, hp, h2, h3⟩
/-- An object of e stood in d or was stored since, and not both. -/
theorem news_or {d e : DirD} (hd : WF d) (h : ExtD d e) {o : ObjD} (ho : o ∈ e.objects) : hasO d.objects o = !hasO (newsD e.objects e.marks (d.next - 1)) o := by
  rw [← mks_obj h.w.len] at ho
  obtain ⟨y, hy, rfl⟩ := List.mem_map.1 ho
  cases h1 : hasO d.objects y.object with
  | true =>
    rw [hasO_iff, ← mks_obj hd.len] at h1
    obtain ⟨x, hx, hxy⟩ := List.mem_map.1 h1
    cases h2 : hasO (newsD e.objects e.marks (d.next - 1)) y.object with
    | false => rfl
    | true =>
      exfalso
      rw [hasO_iff, news_mks] at h2
      obtain ⟨z, hz, h3, h4⟩ := h2
      have := h.new z hz (by omega) x hx (by rw [hxy, h3])
      rw [hxy, h3] at this
      omega
  | false =>
    have h2 : hasO (newsD e.objects e.marks (d.next - 1)) y.object = true := by
      rw [hasO_iff, news_mks]
      refine ⟨y, hy, rfl, ?_⟩
      rcases Int.lt_or_le y.mark d.next with h3 | h3
      · exfalso
        have h4 := h.old y hy h3
        have : hasO d.objects y.object = true := by
          rw [hasO_iff, ← mks_obj hd.len]
          exact List.mem_map.2 ⟨y, h4, rfl⟩
        rw [h1] at this
        cases this
      · omega
    rw [h2]; rfl
end Go.Proofs.Ytaagkdmmdgajjaa
