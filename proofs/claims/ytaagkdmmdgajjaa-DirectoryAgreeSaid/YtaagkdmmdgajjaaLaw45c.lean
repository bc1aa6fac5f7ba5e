/- A second merge of a list stores nothing. -/
import Derived.Test.YtaagkdmmdgajjaaLaw45b
namespace Go.Proofs.Ytaagkdmmdgajjaa
set_option linter.all false
open Go.Idl
set_option maxHeartbeats 4000000
set_option maxRecDepth 100000
attribute [local go_sem] eqOK agObj agDir agOK agSh agMk agOp Try.underlying3 Try.underlying5 Try.underlying9 Try.underlying4

theorem look_store {d : DirD} (h : WF d) (o : ObjD) (hw : WF (storeD d o)) (k : OKeyD) : lookD (storeD d o) k = if k = keyO o then some ⟨o, d.next⟩ else lookD d k := by
  apply Option.ext
  intro a
  rw [lookD_mem hw]
  rw [storeD, mks_of]
  simp only [List.mem_append, List.mem_filter, List.mem_singleton, notK, decide_eq_true_iff]
  by_cases e : k = keyO o
  · rw [if_pos e]
    subst e
    constructor
    · rintro ⟨h1 | h1, h2⟩
      · exact absurd h2 h1.2
      · rw [h1]
    · intro h1
      cases h1
      exact ⟨.inr rfl, rfl⟩
  · rw [if_neg e, lookD_mem h]
    constructor
    · rintro ⟨h1 | h1, h2⟩
      · exact ⟨h1.1, h2⟩
      · subst h1; exact absurd h2.symm e
    · rintro ⟨h1, h2⟩
      refine ⟨.inl ⟨h1, ?_⟩, h2⟩
      rw [h2]; exact e
/-- Nothing is to be stored of it. -/
def Cov (d : DirD) (x : ObjD) : Prop := chkO x ≠ 0 ∨ x.owner = d.party ∨ ∃ old, lookD d (keyO x) = some old ∧ x.version ≤ old.object.version
theorem cov_skip {d : DirD} {x : ObjD} (h : Cov d x) (c : Int) : mgS (d, c) x = (d, c) := by
  unfold mgS
  rcases h with h | h | ⟨old, h1, h2⟩
  · have : (chkO x == 0) = false := by simpa using h
    rw [this, Bool.not_false, cond_true]
  · cases h1 : (chkO x == 0) with
    | false => rw [Bool.not_false, cond_true]
    | true =>
      have : decide (x.owner = d.party) = true := by simpa using h
      rw [Bool.not_true, cond_false, this, cond_true]
  · cases h3 : (chkO x == 0) with
    | false => rw [Bool.not_false, cond_true]
    | true =>
      rw [Bool.not_true, cond_false]
      cases h4 : decide (x.owner = d.party) with
      | true => rw [cond_true]
      | false =>
        rw [cond_false, h1]
        have : decide (old.object.version ≥ x.version) = true := by simpa using h2
        dsimp only
        rw [this, cond_true]
theorem mgS_more (c : DirD × Int) (o : ObjD) : mgS c o = c ∨ (mgS c o = (storeD c.1 o, c.2 + 1) ∧ chkO o = 0 ∧ ∀ old, lookD c.1 (keyO o) = some old → old.object.version < o.version) := by
  unfold mgS
  cases h1 : (chkO o == 0) with
  | false => exact .inl (by rw [Bool.not_false, cond_true])
  | true =>
    rw [Bool.not_true, cond_false]
    cases h2 : decide (o.owner = c.1.party) with
    | true => exact .inl (by rw [cond_true])
    | false =>
      rw [cond_false]
      have e1 : chkO o = 0 := by simpa using h1
      cases h3 : lookD c.1 (keyO o) with
      | some old =>
        dsimp only
        cases h4 : decide (old.object.version ≥ o.version) with
        | true => exact .inl (by rw [cond_true])
        | false => exact .inr ⟨by rw [cond_false], e1, fun old' he => by cases he; simp at h4; omega⟩
      | none =>
        dsimp only
        cases h4 : decide ((c.1.objects.length : Int) ≥ 256) with
        | true => exact .inl (by rw [cond_true])
        | false => exact .inr ⟨by rw [cond_false], e1, fun old' he => by cases he⟩
theorem mg_wf {party : ByteArray} {b : Int} {c : DirD × Int} (h : OkD party b c.1) (hb : b + 1 ≤ 4611686018427387904) (o : ObjD) : OkD party (b + 1) (mgS c o).1 := by
  have := OkD.merge (l := [o]) (c := c) h (by simpa using hb)
  simpa using this
theorem cov_keep {party : ByteArray} {b : Int} {c : DirD × Int} (h : OkD party b c.1) (hb : b + 1 ≤ 4611686018427387904) {o x : ObjD} (hx : Cov c.1 x) : Cov (mgS c o).1 x := by
  have hw := (mg_wf h hb o).w
  rcases mgS_more c o with h1 | ⟨h1, h2, h3⟩
  · rw [h1]; exact hx
  · rw [h1] at hw ⊢
    rcases hx with hx | hx | ⟨old, g1, g2⟩
    · exact .inl hx
    · exact .inr (.inl hx)
    · refine .inr (.inr ?_)
      rw [look_store h.w o hw]
      by_cases e : keyO x = keyO o
      · rw [if_pos e]
        rw [e] at g1
        have := h3 old g1
        exact ⟨_, rfl, by dsimp only; omega⟩
      · rw [if_neg e]
        exact ⟨old, g1, g2⟩
theorem cov_new {party : ByteArray} {b : Int} {c : DirD × Int} (h : OkD party b c.1) (hb : b + 1 ≤ 4611686018427387904) {o : ObjD} (hl : c.1.objects.length < 256) : Cov (mgS c o).1 o := by
  have hw := (mg_wf h hb o).w
  unfold mgS at hw ⊢
  cases h1 : (chkO o == 0) with
  | false => rw [Bool.not_false, cond_true]; exact .inl (by simpa using h1)
  | true =>
    rw [h1, Bool.not_true, cond_false] at hw
    rw [Bool.not_true, cond_false]
    cases h2 : decide (o.owner = c.1.party) with
    | true => rw [cond_true]; exact .inr (.inl (by simpa using h2))
    | false =>
      rw [h2, cond_false] at hw
      rw [cond_false]
      have st : WF (storeD c.1 o) → Cov (storeD c.1 o) o := fun hw => by
        refine .inr (.inr ⟨⟨o, c.1.next⟩, ?_, Int.le_refl _⟩)
        rw [look_store h.w o hw, if_pos rfl]
      cases h3 : lookD c.1 (keyO o) with
      | some old =>
        rw [h3] at hw
        dsimp only at hw ⊢
        cases h4 : decide (old.object.version ≥ o.version) with
        | true => rw [cond_true]; exact .inr (.inr ⟨old, h3, by simpa using h4⟩)
        | false => rw [h4, cond_false] at hw; rw [cond_false]; exact st hw
      | none =>
        rw [h3] at hw
        dsimp only at hw ⊢
        have h4 : decide ((c.1.objects.length : Int) ≥ 256) = false := by simp; omega
        rw [h4, cond_false] at hw
        rw [h4, cond_false]
        exact st hw
theorem store_len {d : DirD} (h : WF d) (o : ObjD) : (storeD d o).objects.length ≤ d.objects.length + 1 := by
  have : ((mks d).filter (notK (keyO o))).length ≤ d.objects.length := by rw [← mks_len h.len]; exact List.length_filter_le _ _
  simpa [storeD, ofMks] using this
theorem merge_cov {party : ByteArray} : ∀ {l : List ObjD} {b : Int} {c : DirD × Int}, OkD party b c.1 → b + l.length ≤ 4611686018427387904 → c.1.objects.length + l.length ≤ 256 →
    (∀ x, x ∈ l → Cov (l.foldl mgS c).1 x) ∧ (∀ x, Cov c.1 x → Cov (l.foldl mgS c).1 x) ∧ (l.foldl mgS c).1.next - (l.foldl mgS c).2 = c.1.next - c.2 ∧ c.2 ≤ (l.foldl mgS c).2 ∧ (l.foldl mgS c).2 ≤ c.2 + l.length
  | [], b, c, h, _, _ => ⟨fun x hx => (by cases hx), fun x hx => hx, rfl, Int.le_refl _, by simp⟩
  | o :: l, b, c, h, hb, hl => by
    rw [List.length_cons] at hb hl
    have h1 := mg_wf h (by omega) o
    have hlen : (mgS c o).1.objects.length ≤ c.1.objects.length + 1 := by
      rcases mgS_more c o with e | ⟨e, _, _⟩
      · rw [e]; omega
      · rw [e]; exact store_len h.w o
    obtain ⟨k1, k2, k3, k4, k5⟩ := merge_cov (l := l) h1 (by omega) (by omega)
    rw [List.foldl_cons]
    have hc : (mgS c o).1.next - (mgS c o).2 = c.1.next - c.2 ∧ c.2 ≤ (mgS c o).2 ∧ (mgS c o).2 ≤ c.2 + 1 := by
      rcases mgS_more c o with e | ⟨e, _, _⟩
      · rw [e]; omega
      · rw [e]
        have : (storeD c.1 o).next = c.1.next + 1 := rfl
        dsimp only
        omega
    refine ⟨fun x hx => ?_, fun x hx => k2 x (cov_keep h (by omega) hx), by omega, by omega, by rw [List.length_cons]; omega⟩
    rcases List.mem_cons.1 hx with rfl | hx
    · exact k2 _ (cov_new h (by omega) (by omega))
    · exact k1 x hx
theorem merge_same {d : DirD} : ∀ {l : List ObjD}, (∀ x, x ∈ l → Cov d x) → l.foldl mgS (d, 0) = (d, 0)
  | [], _ => rfl
  | o :: l, h => by
    rw [List.foldl_cons, cov_skip (h o (by simp))]
    exact merge_same fun x hx => h x (by simp [hx])

theorem small_of {d : DirD} (h : WF d) : smallD d = true := by
  have h1 := h.max
  have h2 := h.len
  simp only [smallD, Bool.and_eq_true, decide_eq_true_eq]
  omega
theorem con5 {Φ : Specs} (hg : Idl.Good Try.prog Φ) (h9 : Φ 9 = some SEx) (h12 : Φ 12 = some SLgl) (h8 : Φ 8 = some SLng) (h13 : Φ 13 = some SPlay)
    (h20 : Φ 20 = some SMrg) (h21 : Φ 21 = some SSmD) :
    Contract Try.prog 5 (FT fun (t : ByteArray × List OpD × List ObjD × Unit) => if (t.2.1.length ≤ 9223372036854775807 ∧ t.2.1.all (fun x => decide (x.objects.length ≤ 9223372036854775807)) = true) ∧ t.2.2.1.length ≤ 9223372036854775807 then some true else none) := by
  refine conT hg k5 ic5 (by decide) fun C t r h => ?_
  obtain ⟨party, l, m, u⟩ := t
  dsimp only at h
  split at h
  · rename_i hl
    obtain ⟨⟨hl, ho⟩, hm⟩ := hl
    cases h
    cases h1 : lngL l 0 0 with
    | true =>
      simp +contextual only [go_sem, ↓reduceIte, Nat.reduceEqDiff, Nat.reduceAdd, Nat.reduceLeDiff, Nat.reduceLT, reduceCtorEq, c5, k5, h9, h12, hl, ho, and_self, h1]
    | false =>
      have hf := few_of h1
      cases hp4 : decide ((party.size : Int) > 4096) with
      | true =>
        simp +contextual only [go_sem, ↓reduceIte, Nat.reduceEqDiff, Nat.reduceAdd, Nat.reduceLeDiff, Nat.reduceLT, reduceCtorEq, c5, k5, h9, h12, hl, ho, and_self, h1, hp4]
      | false =>
        cases h2 : lngO m 0 0 with
        | true =>
          simp +contextual only [go_sem, ↓reduceIte, Nat.reduceEqDiff, Nat.reduceAdd, Nat.reduceLeDiff, Nat.reduceLT, reduceCtorEq, c5, k5, h9, h12, h8, hl, ho, hm, and_self, h1, h2, hp4]
        | false =>
          have hml := lngO_len h2 (by omega)
          cases hN : okName party with
          | false =>
            have hp : playS party l = (⟨⟨#[]⟩, [], [], 0⟩, false) := by simp only [playS, hN, cond_false]
            simp +contextual only [go_sem, ↓reduceIte, Nat.reduceEqDiff, Nat.reduceAdd, Nat.reduceLeDiff, Nat.reduceLT, reduceCtorEq, c5, k5, h9, h12, h8, h13, hl, ho, hm, and_self, h1, h2, hp4, hf, hp, List.map_nil]
          | true =>
            have hp : playS party l = (runD (newD party) l, true) := by simp only [playS, hN, cond_true]
            have hD := run_few hN hf
            generalize runD (newD party) l = D at hp hD
            have hn := hD.n
            have hmx := hD.w.max
            have w1 : IntKind.i64.wrap ((D.objects.length : Int) + (m.length : Int)) = (D.objects.length : Int) + (m.length : Int) := by rw [IntKind.wrap_i64]; omega
            cases h3 : decide ((D.objects.length : Int) + (m.length : Int) > 256) with
            | true =>
              simp +contextual only [go_sem, ↓reduceIte, Nat.reduceEqDiff, Nat.reduceAdd, Nat.reduceLeDiff, Nat.reduceLT, reduceCtorEq, c5, k5, h9, h12, h8, h13, hl, ho, hm, and_self, h1, h2, hp4, hf, hp, List.length_map, w1, h3]
            | false =>
              have h3' : D.objects.length + m.length ≤ 256 := by simp at h3; omega
              obtain ⟨q1, q2, q3, q4, q5⟩ := merge_cov (l := m) (c := (D, 0)) hD (by omega) h3'
              have hA := OkD.merge (l := m) (c := (D, 0)) hD (by omega)
              have hms : mergeS D m = m.foldl mgS (D, 0) := rfl
              generalize m.foldl mgS (D, 0) = A at q1 q2 q3 q4 q5 hA hms
              obtain ⟨a, n⟩ := A
              dsimp only at q1 q2 q3 q4 q5 hA hms
              have hsame : mergeS a m = (a, 0) := merge_same q1
              have hAn := hA.n
              have hD1 := hD.w.n1
              have v1 := (valid_iff D).2 hD.w
              have v2 := (valid_iff a).2 hA.w
              have m1 : m.length ≤ 100000 := by omega
              have m2 : D.next + m.length ≤ 4611686018427387904 := by omega
              have m3 : a.next + m.length ≤ 4611686018427387904 := by omega
              have c1 : decide (n ≥ 0) = true := by simp; omega
              have c2 : decide (n ≤ (m.length : Int)) = true := by simp; omega
              have w2 : IntKind.i64.wrap (D.next + n) = a.next := by rw [IntKind.wrap_i64]; omega
              have s1 := small_of hA.w
              have s2 : sameD a a = true := sameD_iff.2 rfl
              simp +contextual only [go_sem, ↓reduceIte, Nat.reduceEqDiff, Nat.reduceAdd, Nat.reduceLeDiff, Nat.reduceLT, reduceCtorEq, c5, k5, h9, h12, h8, h13, h20, h21, hl, ho, hm, and_self, h1, h2, hp4, hf, hp, List.length_map, w1, h3, v1, v2, m1, m2, m3, hms, hsame, c1, c2, w2, s1, s2, beq_self_eq_true]
  · cases h
end Go.Proofs.Ytaagkdmmdgajjaa
