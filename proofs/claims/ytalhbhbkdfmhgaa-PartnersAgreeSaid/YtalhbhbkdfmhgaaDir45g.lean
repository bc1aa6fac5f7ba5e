/- What a store makes of a directory. -/
import Derived.Test.YtalhbhbkdfmhgaaDir45f
namespace Go.Proofs.Ytalhbhbkdfmhgaa
set_option linter.all false
open Go.Idl
set_option maxHeartbeats 1000000
def mkP (p : ObjD × Int) : MarkD := ⟨p.1, p.2⟩
def mks (d : DirD) : List MarkD := (d.objects.zip d.marks).map mkP
def entP (p : ObjD × Int) : OKeyD × MarkD := (keyO p.1, mkP p)
structure Rel (d : DirD) (m : List (OKeyD × MarkD)) : Prop where
  pm : (m.map (·.2)).Perm (mks d)
  ks : ∀ p, p ∈ m → p.1 = keyO p.2.object
  nd : (m.map (·.1)).Nodup
def putR (m : List (OKeyD × MarkD)) (k : OKeyD) (a : MarkD) : List (OKeyD × MarkD) := match m with
  | [] => [(k, a)]
  | p :: m => if k = p.1 then (k, a) :: m else p :: putR m k a
theorem putM_R (m : List (OKeyD × MarkD)) (k : OKeyD) (a : MarkD) : putM m k a = putR m k a := by
  induction m with
  | nil => rfl
  | cons p m ih =>
    unfold putM at ih ⊢
    unfold fidx at ih ⊢
    rw [List.findIdx?_cons]
    unfold putR
    by_cases h : k = p.1
    · simp [h]
    · rw [if_neg h]
      simp only [h, decide_false, Bool.false_eq_true, if_false]
      rw [← ih]
      cases hf : List.findIdx? (fun p => decide (k = p.1)) m <;> simp
theorem putR_perm {m : List (OKeyD × MarkD)} (k : OKeyD) (a : MarkD) (hn : (m.map (·.1)).Nodup) : (putR m k a).Perm (m.filter (fun p => decide (p.1 ≠ k)) ++ [(k, a)]) := by
  induction m with
  | nil => exact List.Perm.refl _
  | cons p m ih =>
    rw [List.map_cons, List.nodup_cons] at hn
    unfold putR
    by_cases h : k = p.1
    · rw [if_pos h]
      have hf : m.filter (fun p => decide (p.1 ≠ k)) = m := List.filter_eq_self.2 fun q hq => by
        have : q.1 ≠ k := fun e => hn.1 (List.mem_map.2 ⟨q, hq, by rw [e, h]⟩)
        simp [this]
      rw [List.filter_cons_of_neg (by simp [h]), hf]
      exact (List.perm_append_comm (l₁ := m) (l₂ := [(k, a)])).symm
    · rw [if_neg h]
      have h' : p.1 ≠ k := fun e => h e.symm
      rw [List.filter_cons_of_pos (by simp [h'])]
      exact (ih hn.2).cons p
theorem open_eq {l : List (ObjD × Int)} : ∀ {m : List (OKeyD × MarkD)}, (l.map fun p => keyO p.1).Nodup → (∀ p, p ∈ l → ∀ q, q ∈ m → q.1 ≠ keyO p.1) → l.foldl putO m = m ++ l.map entP := by
  induction l with
  | nil => intro m _ _; simp
  | cons p l ih =>
    intro m hn hx
    rw [List.map_cons, List.nodup_cons] at hn
    have h1 : putO m p = m ++ [entP p] := by
      unfold putO
      rw [putM_R]
      have hp := hx p (by simp)
      clear hx ih hn
      induction m with
      | nil => rfl
      | cons q m ih =>
        unfold putR
        rw [if_neg fun e => hp q (by simp) e.symm, ih fun q hq => hp q (by simp [hq])]
        rfl
    rw [List.foldl_cons, h1, ih hn.2]
    · simp
    · intro p' hp' q hq
      rcases List.mem_append.1 hq with hq | hq
      · exact hx p' (by simp [hp']) q hq
      · have : q = entP p := by simpa using hq
        subst this
        intro e
        exact hn.1 (List.mem_map.2 ⟨p', hp', e.symm⟩)
theorem zip_keys {d : DirD} (h : d.marks.length = d.objects.length) : (d.objects.zip d.marks).map (fun p => keyO p.1) = d.objects.map keyO := by
  have hz1 : (d.objects.zip d.marks).map (·.1) = d.objects := List.map_fst_zip (by omega)
  conv => rhs; rw [← hz1, List.map_map]
  rfl
theorem open_rel {d : DirD} (h : WF d) : Rel d (openM d) := by
  have he : openM d = (d.objects.zip d.marks).map entP := by
    unfold openM
    rw [open_eq (by rw [zip_keys h.len]; exact h.keys) (fun p hp q hq => by cases hq)]
    rfl
  rw [he]
  refine ⟨?_, ?_, ?_⟩
  · rw [List.map_map]
    exact List.Perm.refl _
  · intro p hp
    obtain ⟨q, _, rfl⟩ := List.mem_map.1 hp
    rfl
  · rw [List.map_map]
    show ((d.objects.zip d.marks).map fun p => keyO p.1).Nodup
    rw [zip_keys h.len]
    exact h.keys
theorem mks_len {d : DirD} (h : d.marks.length = d.objects.length) : (mks d).length = d.objects.length := by simp [mks]; omega
theorem mks_obj {d : DirD} (h : d.marks.length = d.objects.length) : (mks d).map (·.object) = d.objects := by
  rw [mks, List.map_map]
  exact List.map_fst_zip (by omega)
theorem mks_mark {d : DirD} (h : d.marks.length = d.objects.length) : (mks d).map (·.mark) = d.marks := by
  rw [mks, List.map_map]
  exact List.map_snd_zip (by omega)
theorem Rel.len {d : DirD} {m : List (OKeyD × MarkD)} (h : Rel d m) (hl : d.marks.length = d.objects.length) : m.length = d.objects.length := by
  have := h.pm.length_eq
  rw [mks_len hl] at this
  simpa using this
def lookD (d : DirD) (k : OKeyD) : Option MarkD := (mks d).find? fun x => decide (keyO x.object = k)
theorem look_mem {m : List (OKeyD × MarkD)} (hn : (m.map (·.1)).Nodup) (k : OKeyD) (a : MarkD) : lookM m k = some a ↔ (k, a) ∈ m := by
  induction m with
  | nil => simp [lookM]
  | cons p m ih =>
    rw [List.map_cons, List.nodup_cons] at hn
    unfold lookM at ih ⊢
    rw [List.find?_cons]
    by_cases h : k = p.1
    · simp only [h, decide_true, Option.map_some, Option.some.injEq, List.mem_cons]
      constructor
      · rintro rfl; exact .inl rfl
      · rintro (e | e)
        · rw [← e]
        · exact absurd (List.mem_map.2 ⟨_, e, rfl⟩) hn.1
    · simp only [h, decide_false]
      rw [ih hn.2]
      simp only [List.mem_cons]
      constructor
      · exact .inr
      · rintro (e | e)
        · exact absurd (by rw [← e]) h
        · exact e
theorem lookD_mem {d : DirD} (h : WF d) (k : OKeyD) (a : MarkD) : lookD d k = some a ↔ a ∈ mks d ∧ keyO a.object = k := by
  have hn : ((mks d).map fun x => keyO x.object).Nodup := by
    have := h.keys
    rw [← mks_obj h.len, List.map_map] at this
    exact this
  unfold lookD
  generalize mks d = l at hn
  induction l with
  | nil => simp
  | cons x l ih =>
    rw [List.map_cons, List.nodup_cons] at hn
    rw [List.find?_cons]
    by_cases e : keyO x.object = k
    · simp only [e, decide_true, Option.some.injEq, List.mem_cons]
      constructor
      · rintro rfl; exact ⟨.inl rfl, e⟩
      · rintro ⟨h1 | h1, h2⟩
        · exact h1.symm
        · exact absurd (List.mem_map.2 ⟨a, h1, by rw [h2, e]⟩) hn.1
    · simp only [e, decide_false]
      refine (ih hn.2).trans ?_
      simp only [List.mem_cons]
      constructor
      · rintro ⟨h1, h2⟩; exact ⟨.inr h1, h2⟩
      · rintro ⟨h1 | h1, h2⟩
        · subst h1; exact absurd h2 e
        · exact ⟨h1, h2⟩
theorem Rel.look {d : DirD} {m : List (OKeyD × MarkD)} (h : Rel d m) (hw : WF d) (k : OKeyD) : lookM m k = lookD d k := by
  apply Option.ext
  intro a
  rw [look_mem h.nd, lookD_mem hw]
  constructor
  · intro hm
    refine ⟨h.pm.mem_iff.1 (List.mem_map.2 ⟨_, hm, rfl⟩), (h.ks _ hm).symm⟩
  · rintro ⟨h1, h2⟩
    obtain ⟨p, hp, rfl⟩ := List.mem_map.1 (h.pm.mem_iff.2 h1)
    have := h.ks p hp
    rw [h2] at this
    rw [← this]
    exact hp
def ofMks (party : ByteArray) (next : Int) (l : List MarkD) : DirD := ⟨party, l.map (·.object), l.map (·.mark), next⟩
theorem mks_of (party : ByteArray) (next : Int) (l : List MarkD) : mks (ofMks party next l) = l := by
  unfold mks ofMks
  induction l with
  | nil => rfl
  | cons x l ih => simp only [List.map_cons, List.zip_cons_cons]; rw [ih]; rfl
theorem of_mks {d : DirD} (h : d.marks.length = d.objects.length) : ofMks d.party d.next (mks d) = d := by
  unfold ofMks
  rw [mks_obj h, mks_mark h]
def notK (k : OKeyD) (x : MarkD) : Bool := decide (keyO x.object ≠ k)
def storeD (d : DirD) (o : ObjD) : DirD := ofMks d.party (d.next + 1) ((mks d).filter (notK (keyO o)) ++ [⟨o, d.next⟩])
theorem store_rel {d : DirD} {m : List (OKeyD × MarkD)} (h : Rel d m) (o : ObjD) : Rel (storeD d o) (putO m (o, d.next)) := by
  have hp : (putO m (o, d.next)).Perm (m.filter (fun p => decide (p.1 ≠ keyO o)) ++ [(keyO o, ⟨o, d.next⟩)]) := by
    unfold putO
    rw [putM_R]
    exact putR_perm _ _ h.nd
  refine ⟨?_, ?_, ?_⟩
  · rw [storeD, mks_of]
    have h1 := hp.map (·.2)
    rw [List.map_append] at h1
    refine h1.trans ?_
    refine List.Perm.append_right _ ?_
    have h2 : (m.filter (fun p => decide (p.1 ≠ keyO o))).map (·.2) = (m.map (·.2)).filter (notK (keyO o)) := by
      rw [List.filter_map]
      congr 1
      refine List.filter_congr fun p hp => ?_
      simp only [notK, Function.comp, h.ks p hp]
    rw [h2]
    exact h.pm.filter _
  · intro p hp'
    rcases List.mem_append.1 (hp.mem_iff.1 hp') with h1 | h1
    · exact h.ks p (List.mem_filter.1 h1).1
    · have : p = (keyO o, ⟨o, d.next⟩) := by simpa using h1
      rw [this]
  · rw [(hp.map (·.1)).nodup_iff, List.map_append, List.nodup_append]
    refine ⟨h.nd.sublist (List.Sublist.map _ List.filter_sublist), by simp, ?_⟩
    intro a ha b hb
    obtain ⟨p, hp1, rfl⟩ := List.mem_map.1 ha
    have : b = keyO o := by simpa using hb
    rw [this]
    have := (List.mem_filter.1 hp1).2
    simpa using this
theorem store_wf {d : DirD} (h : WF d) {o : ObjD} (ho : chkO o = 0) (hr : (lookD d (keyO o)).isSome = true ∨ d.objects.length < 256) (hn : d.next + 1 ≤ 4611686018427387904) : WF (storeD d o) := by
  have hsub : ((mks d).filter (notK (keyO o))).Sublist (mks d) := List.filter_sublist
  have hn1 := h.n1
  have hm : ∀ x, x ∈ (mks d).filter (notK (keyO o)) → x.object ∈ d.objects ∧ x.mark ∈ d.marks := fun x hx => by
    have := hsub.subset hx
    exact ⟨by rw [← mks_obj h.len]; exact List.mem_map.2 ⟨x, this, rfl⟩, by rw [← mks_mark h.len]; exact List.mem_map.2 ⟨x, this, rfl⟩⟩
  have hle : ((mks d).filter (notK (keyO o))).length ≤ d.objects.length := by rw [← mks_len h.len]; exact List.length_filter_le _ _
  refine ⟨h.name, by simp [storeD, ofMks], ?_, ?_, ?_, ?_, ?_, ?_, ?_, hn⟩
  · have hmax := h.max
    have : ((mks d).filter (notK (keyO o))).length + 1 ≤ 256 := by
      rcases hr with hr | hr
      · obtain ⟨a, ha⟩ := Option.isSome_iff_exists.1 hr
        obtain ⟨h1, h2⟩ := (lookD_mem h _ _).1 ha
        have : ((mks d).filter (notK (keyO o))).length < (mks d).length := by
          rcases Nat.lt_or_ge ((mks d).filter (notK (keyO o))).length (mks d).length with h3 | h3
          · exact h3
          · have h4 := List.length_filter_eq_length_iff.1 (Nat.le_antisymm (List.length_filter_le _ _) h3) a h1
            simp [notK, h2] at h4
        rw [mks_len h.len] at this
        omega
      · omega
    simpa [storeD, ofMks] using this
  · intro x hx
    simp only [storeD, ofMks, List.map_append, List.mem_append, List.mem_map] at hx
    rcases hx with ⟨y, hy, rfl⟩ | hx
    · exact h.chk _ (hm y hy).1
    · simp at hx; subst hx; exact ho
  · have hk := h.keys
    rw [← mks_obj h.len, List.map_map] at hk
    simp only [storeD, ofMks, List.map_append, List.map_map]
    rw [List.nodup_append]
    refine ⟨hk.sublist (hsub.map _), by simp, ?_⟩
    intro a ha b hb
    obtain ⟨x, hx, rfl⟩ := List.mem_map.1 ha
    have : b = keyO o := by simpa using hb
    rw [this]
    have := (List.mem_filter.1 hx).2
    simpa [notK] using this
  · have hk := h.inc
    rw [← mks_mark h.len] at hk
    simp only [storeD, ofMks, List.map_append]
    rw [List.pairwise_append]
    refine ⟨hk.sublist (hsub.map _), by simp, ?_⟩
    intro a ha b hb
    obtain ⟨x, hx, rfl⟩ := List.mem_map.1 ha
    have : b = d.next := by simpa using hb
    rw [this]
    exact h.hi _ (hm x hx).2
  · intro x hx
    simp only [storeD, ofMks, List.map_append, List.mem_append, List.mem_map] at hx
    rcases hx with ⟨y, hy, rfl⟩ | hx
    · exact h.lo _ (hm y hy).2
    · simp at hx; rw [← hx]; exact hn1
  · intro x hx
    simp only [storeD, ofMks, List.map_append, List.mem_append, List.mem_map] at hx
    show x < d.next + 1
    rcases hx with ⟨y, hy, rfl⟩ | hx
    · have := h.hi _ (hm y hy).2; omega
    · simp at hx; rw [← hx]; omega
  · show 1 ≤ d.next + 1
    omega
theorem mks_sorted {d : DirD} (h : WF d) : (mks d).Pairwise fun a b => a.mark < b.mark := by
  have := h.inc
  rw [← mks_mark h.len, List.pairwise_map] at this
  exact this
theorem mks_data {d : DirD} (h : WF d) : ∀ x, x ∈ mks d → x.object.data.length ≤ 1000000 := by
  intro x hx
  have h1 : x.object ∈ d.objects := by rw [← mks_obj h.len]; exact List.mem_map.2 ⟨x, hx, rfl⟩
  have h2 := h.chk _ h1
  unfold chkO at h2
  by_cases h3 : (x.object.data.length : Int) > 4096
  · exfalso
    have e3 : decide ((x.object.data.length : Int) > 4096) = true := by simpa using h3
    rw [e3] at h2
    revert h2
    generalize (decide (x.object.kind < 1) || decide (x.object.kind > 8)) = a
    generalize (!okName x.object.id || !okName x.object.owner) = b
    generalize (decide (x.object.version < 1) || decide (x.object.version > 2147483647)) = c
    cases a <;> cases b <;> cases c <;> decide
  · omega
end Go.Proofs.Ytalhbhbkdfmhgaa
