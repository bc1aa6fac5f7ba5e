/- Partners that merge know the same: the plain law. -/
import Derived.Test.YtaagkdmmdgajjaaLaw45c
namespace Go.Proofs.Ytaagkdmmdgajjaa
set_option linter.all false
open Go.Idl
set_option maxHeartbeats 1000000

def OwnL (p : ByteArray) (d : DirD) : Prop := ∀ o, o ∈ d.objects → o.owner = p
theorem store_objs (d : DirD) (o : ObjD) : (storeD d o).objects = ((mks d).filter (notK (keyO o))).map (·.object) ++ [o] := by simp [storeD, ofMks]
theorem OwnL.put {p : ByteArray} {d : DirD} (h : OwnL p d) (hw : WF d) (hp : d.party = p) (o : ObjD) : OwnL p (putS d o).1 := by
  rcases putS_cases d o with ⟨e, h1⟩ | ⟨h1, _, h3, _⟩
  · rw [h1]; exact h
  · rw [h1]
    intro x hx
    dsimp only at hx
    rw [store_objs] at hx
    rcases List.mem_append.1 hx with hx | hx
    · obtain ⟨y, hy, rfl⟩ := List.mem_map.1 hx
      refine h _ ?_
      rw [← mks_obj hw.len]
      exact List.mem_map.2 ⟨y, (List.mem_filter.1 hy).1, rfl⟩
    · have : x = o := by simpa using hx
      rw [this, h3, hp]
theorem run_own {p : ByteArray} : ∀ {l : List OpD} {b : Int} {d : DirD}, OkD p b d → OwnL p d → (∀ x, x ∈ l → x.objects.length ≤ 300 ∧ x.kind = 1) → b + 300 * l.length ≤ 4611686018427387904 → OwnL p (runD d l)
  | [], _, _, _, ho, _, _ => ho
  | x :: l, b, d, h, ho, hx, hb => by
    rw [List.length_cons] at hb
    obtain ⟨h1, h2⟩ := hx x (by simp)
    have hc := h.call h1 (by omega)
    refine run_own (l := l) hc ?_ (fun y hy => hx y (by simp [hy])) (by omega)
    show OwnL p (callS d x).1
    unfold callS
    cases h3 : (x.kind == 1 && decide ((x.objects.length : Int) > 0)) with
    | true =>
      rw [cond_true]
      cases h4 : x.objects[0]? with
      | none => exact ho
      | some o => exact ho.put h.w h.p o
    | false =>
      rw [cond_false]
      have : (x.kind == 2) = false := by rw [h2]; rfl
      rw [this, cond_false]
      exact ho
theorem news_all : ∀ (l : List ObjD) (ms : List Int), ms.length = l.length → (∀ m, m ∈ ms → 1 ≤ m) → newsD l ms 0 = l
  | [], _, _, _ => by unfold newsD; rfl
  | _ :: _, [], h, _ => by simp at h
  | o :: l, m :: ms, h, hm => by
    have h1 := hm m (by simp)
    have e : decide (m > 0) = true := by simp; omega
    rw [newsD, e, cond_true, news_all l ms (by simpa using h) fun x hx => hm x (by simp [hx])]
theorem look_none {d : DirD} (h : WF d) {k : OKeyD} (hk : ∀ x, x ∈ d.objects → keyO x ≠ k) : lookD d k = none := by
  cases h1 : lookD d k with
  | none => rfl
  | some a =>
    obtain ⟨h2, h3⟩ := (lookD_mem h _ _).1 h1
    refine absurd h3 (hk _ ?_)
    rw [← mks_obj h.len]
    exact List.mem_map.2 ⟨a, h2, rfl⟩
theorem store_none {d : DirD} (h : WF d) {o : ObjD} (hk : ∀ x, x ∈ d.objects → keyO x ≠ keyO o) : (storeD d o).objects = d.objects ++ [o] := by
  rw [store_objs]
  have : (mks d).filter (notK (keyO o)) = mks d := by
    rw [List.filter_eq_self]
    intro a ha
    have : a.object ∈ d.objects := by rw [← mks_obj h.len]; exact List.mem_map.2 ⟨a, ha, rfl⟩
    simpa [notK] using hk _ this
  rw [this, mks_obj h.len]
theorem merge_new {p : ByteArray} : ∀ {l : List ObjD} {b : Int} {c : DirD × Int}, OkD p b c.1 → (∀ o, o ∈ l → chkO o = 0 ∧ o.owner ≠ p) → (l.map keyO).Nodup → (∀ o, o ∈ l → ∀ x, x ∈ c.1.objects → keyO x ≠ keyO o) →
    c.1.objects.length + l.length ≤ 256 → b + l.length ≤ 4611686018427387904 → (l.foldl mgS c).1.objects = c.1.objects ++ l ∧ (l.foldl mgS c).2 = c.2 + l.length
  | [], _, _, _, _, _, _, _, _ => by simp
  | o :: l, b, c, h, ho, hn, hk, hl, hb => by
    rw [List.length_cons] at hl hb
    have h1 := mg_wf h (by omega) o
    obtain ⟨g1, g2⟩ := ho o (by simp)
    have hlk := look_none h.w (hk o (by simp))
    have hs : mgS c o = (storeD c.1 o, c.2 + 1) := by
      unfold mgS
      have e1 : (chkO o == 0) = true := by simpa using g1
      have e2 : decide (o.owner = c.1.party) = false := by rw [h.p]; simpa using g2
      have e3 : decide ((c.1.objects.length : Int) ≥ 256) = false := by simp; omega
      rw [e1, Bool.not_true, cond_false, e2, cond_false, hlk]
      dsimp only
      rw [e3, cond_false]
    have hob := store_none h.w (hk o (by simp))
    rw [List.map_cons, List.nodup_cons] at hn
    rw [List.foldl_cons]
    rw [hs] at h1 ⊢
    obtain ⟨k1, k2⟩ := merge_new (l := l) (c := (storeD c.1 o, c.2 + 1)) h1 (fun x hx => ho x (by simp [hx])) hn.2 (fun x hx y hy => by
      dsimp only at hy
      rw [hob] at hy
      rcases List.mem_append.1 hy with hy | hy
      · exact hk x (by simp [hx]) y hy
      · have : y = o := by simpa using hy
        subst this
        intro e
        exact hn.1 (List.mem_map.2 ⟨x, hx, e.symm⟩)) (by dsimp only; rw [hob, List.length_append, List.length_singleton]; omega) (by omega)
    refine ⟨?_, ?_⟩
    · rw [k1]; dsimp only; rw [hob]; simp
    · rw [k2, List.length_cons]; dsimp only; omega
/-- What was put by two parties, each of it known to both after a merge. -/
theorem agree_merge {p q : ByteArray} {b1 b2 : Int} {A B : DirD} (ha : OkD p b1 A) (hb : OkD q b2 B) (hpq : p ≠ q) (oa : OwnL p A) (ob : OwnL q B) (hl : A.objects.length + B.objects.length ≤ 256) (hb1 : b1 + 256 ≤ 4611686018427387904) :
    (mergeS A B.objects).1.objects = A.objects ++ B.objects ∧ (mergeS A B.objects).2 = B.objects.length := by
  have := merge_new (l := B.objects) (c := (A, 0)) ha (fun o ho => ⟨hb.w.chk o ho, fun e => hpq (by rw [← e, ob o ho])⟩) hb.w.keys (fun o ho x hx e => hpq (by
    have e2 : x.owner = o.owner := congrArg OKeyD.owner e
    rw [← oa x hx, e2, ob o ho])) hl (by omega)
  refine ⟨this.1, this.2.trans ?_⟩
  simp
theorem agree_has (a b : List ObjD) : ∀ x, x ∈ a ++ b → hasO (b ++ a) x = true := by
  intro x hx
  rw [hasO_iff]
  simp only [List.mem_append] at hx ⊢
  exact hx.symm
end Go.Proofs.Ytaagkdmmdgajjaa
