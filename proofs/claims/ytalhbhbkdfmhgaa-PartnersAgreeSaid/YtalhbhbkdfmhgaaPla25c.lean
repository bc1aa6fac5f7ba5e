/- Two partners (plain): disputes, and what they come to. -/
import Derived.Test.YtalhbhbkdfmhgaaPla25b
namespace Go.Proofs.Ytalhbhbkdfmhgaa
set_option linter.all false
open Go.Idl
set_option maxRecDepth 100000
def clm (d : DealD) : Bool := !d.credited && (!decide (d.claim.val < 1) && !decide (d.claim.val > d.net.val))
def grd (d : DealD) : Bool := clm d && (!decide (d.granted.val < 1) && !decide (d.granted.val > d.claim.val))
theorem clm_iff {d : DealD} (h : clm d = true) : d.credited = false ∧ 1 ≤ d.claim.val ∧ d.claim.val ≤ d.net.val := by
  simp only [clm, Bool.and_eq_true, Bool.not_eq_true', decide_eq_false_iff_not] at h
  exact ⟨h.1, by omega, by omega⟩
theorem grd_iff {d : DealD} (h : grd d = true) : clm d = true ∧ 1 ≤ d.granted.val ∧ d.granted.val ≤ d.claim.val := by
  simp only [grd, Bool.and_eq_true, Bool.not_eq_true', decide_eq_false_iff_not] at h
  exact ⟨h.1, by omega, by omega⟩
def dopD (i : Nat) (d : DealD) : Disp := ⟨cId i, prD d, 1, 1000, d.claim.val, 0⟩
def dfiD (i : Nat) (d : DealD) : Disp := ⟨cId i, prD d, 4, 1000, d.claim.val, d.granted.val⟩
def disD (k i : Nat) (d : DealD) : Disp := if i < k ∧ grd d = true then dfiD i d else dopD i d
theorem disD_cdr (k i : Nat) (d : DealD) : (disD k i d).cdr = cId i := by unfold disD; split <;> rfl
def dsp (w : Bool) (k : Nat) : Nat → List DealD → List Disp
  | _, [] => []
  | i, d :: l => (if d.back = w ∧ clm d = true then [disD k i d] else []) ++ dsp w k (i + 1) l
theorem dsp_app (w : Bool) (k : Nat) : ∀ (l : List DealD) (i : Nat) (d : DealD), dsp w k i (l ++ [d]) = dsp w k i l ++ (if d.back = w ∧ clm d = true then [disD k (i + l.length) d] else [])
  | [], i, d => by simp [dsp]
  | x :: l, i, d => by
    rw [List.cons_append, dsp, dsp, dsp_app w k l (i + 1) d, List.append_assoc, List.length_cons, show i + 1 + l.length = i + (l.length + 1) by omega]
theorem dsp_mem {w : Bool} {k : Nat} {c : Disp} : ∀ {l : List DealD} {i : Nat}, c ∈ dsp w k i l ↔ ∃ j d, l[j]? = some d ∧ d.back = w ∧ clm d = true ∧ c = disD k (i + j) d
  | [], i => by simp [dsp]
  | x :: l, i => by
    have ih := dsp_mem (w := w) (k := k) (c := c) (l := l) (i := i + 1)
    rw [dsp, List.mem_append, ih]
    constructor
    · rintro (h | ⟨j, d, h1, h2, h3, h4⟩)
      · split at h
        · rename_i hb
          simp at h
          exact ⟨0, x, rfl, hb.1, hb.2, h⟩
        · cases h
      · refine ⟨j + 1, d, h1, h2, h3, ?_⟩
        rw [show i + 1 + j = i + (j + 1) by omega] at h4
        exact h4
    · rintro ⟨j, d, h1, h2, h3, h4⟩
      cases j with
      | zero =>
        cases h1
        left
        rw [if_pos ⟨h2, h3⟩]
        simpa using h4
      | succ j =>
        right
        refine ⟨j, d, h1, h2, h3, ?_⟩
        rw [show i + 1 + j = i + (j + 1) by omega]
        exact h4
theorem dsp_len (w : Bool) (k : Nat) : ∀ (l : List DealD) (i : Nat), (dsp w k i l).length ≤ l.length
  | [], i => by simp [dsp]
  | x :: l, i => by
    have := dsp_len w k l (i + 1)
    rw [dsp, List.length_append, List.length_cons]
    have : (if x.back = w ∧ clm x = true then [disD k i x] else []).length ≤ 1 := by split <;> simp
    omega
theorem dis_of {w w' : Bool} {k k' : Nat} {c c' : Disp} {l : List DealD} (hl : l.length ≤ 10) (h : c ∈ dsp w k 0 l) (h' : c' ∈ dsp w' k' 0 l) (he : c.cdr = c'.cdr) : w = w' ∧ ∃ j d, l[j]? = some d ∧ d.back = w ∧ clm d = true ∧ c = disD k j d ∧ c' = disD k' j d := by
  obtain ⟨j, d, h1, h2, h3, h4⟩ := dsp_mem.1 h
  obtain ⟨j', d', h1', h2', h3', h4'⟩ := dsp_mem.1 h'
  have hj := (List.getElem?_eq_some_iff.1 h1).1
  have hj' := (List.getElem?_eq_some_iff.1 h1').1
  rw [Nat.zero_add] at h4 h4'
  rw [h4, h4', disD_cdr, disD_cdr] at he
  have e := cId_inj (by omega) (by omega) he
  subst e
  rw [h1] at h1'
  cases h1'
  exact ⟨by rw [← h2, ← h2'], j, d, h1, h2, h3, h4, h4'⟩
theorem dsp_nodup (w : Bool) (k : Nat) : ∀ {l : List DealD} {i : Nat}, i + l.length ≤ 10 → ((dsp w k i l).map Disp.cdr).Nodup
  | [], i, _ => by simp [dsp]
  | x :: l, i, h => by
    rw [List.length_cons] at h
    have ih := dsp_nodup w k (l := l) (i := i + 1) (by omega)
    rw [dsp, List.map_append, List.nodup_append]
    refine ⟨?_, ih, ?_⟩
    · split <;> simp
    · intro a ha b hb hab
      obtain ⟨c, hc, rfl⟩ := List.mem_map.1 ha
      obtain ⟨c', hc', rfl⟩ := List.mem_map.1 hb
      obtain ⟨j, d, h1, _, _, h3⟩ := dsp_mem.1 hc'
      have hj := (List.getElem?_eq_some_iff.1 h1).1
      split at hc
      · simp at hc
        rw [hc, h3, disD_cdr, disD_cdr] at hab
        have := cId_inj (by omega) (by omega) hab
        omega
      · cases hc
theorem dboth_nodup (w : Bool) (k k' : Nat) {l : List DealD} (hl : l.length ≤ 10) : ((dsp w k 0 l ++ dsp (!w) k' 0 l).map Disp.cdr).Nodup := by
  rw [List.map_append, List.nodup_append]
  refine ⟨dsp_nodup w k (by omega), dsp_nodup (!w) k' (by omega), ?_⟩
  intro a ha b hb hab
  obtain ⟨c, hc, rfl⟩ := List.mem_map.1 ha
  obtain ⟨c', hc', rfl⟩ := List.mem_map.1 hb
  have := (dis_of hl hc hc' hab).1
  cases w <;> cases this
theorem dis_ok {k i : Nat} {d : DealD} (hi : i < 10) (hc : clm d = true) : validD (disD k i d) = 0 := by
  obtain ⟨_, c1, c2⟩ := clm_iff hc
  have n1 := (net_in d).2
  unfold disD
  split
  · rename_i h
    obtain ⟨_, g1, g2⟩ := grd_iff h.2
    exact valid_of ⟨ok_c hi, ok_pr d, (by decide : (1 : Int) ≤ 4), (by decide : (4 : Int) ≤ 6), (by decide : (0 : Int) ≤ 1000), (by decide : (1000 : Int) ≤ 268435456), c1, by show d.claim.val ≤ _; omega, by show 0 ≤ d.granted.val; omega, g2, ⟨fun h => by have : d.granted.val = 0 := h; omega, fun h => absurd rfl h⟩⟩
  · exact valid_of ⟨ok_c hi, ok_pr d, (by decide : (1 : Int) ≤ 1), (by decide : (1 : Int) ≤ 6), (by decide : (0 : Int) ≤ 1000), (by decide : (1000 : Int) ≤ 268435456), c1, by show d.claim.val ≤ _; omega, by show (0 : Int) ≤ 0; omega, by show (0 : Int) ≤ d.claim.val; omega, ⟨fun _ => by show (1 : Int) ≠ 4; decide, fun _ => rfl⟩⟩
theorem dsp_rec {w : Bool} {k : Nat} {x : Disp} {l : List DealD} (hl : l.length ≤ 10) (h : x ∈ dsp w k 0 l) : validD x = 0 ∧ ∃ c, c ∈ rcs w 0 l ∧ c.id = x.cdr ∧ x.who = c.provider := by
  obtain ⟨j, d, h1, h2, h3, h4⟩ := dsp_mem.1 h
  have hj := (List.getElem?_eq_some_iff.1 h1).1
  rw [Nat.zero_add] at h4
  refine ⟨by rw [h4]; exact dis_ok (by omega) h3, recD j d, rcs_mem.2 ⟨j, d, h1, h2, by rw [Nat.zero_add]; exact .inl rfl⟩, by rw [h4, disD_cdr]; rfl, ?_⟩
  rw [h4]; unfold disD; split <;> rfl
def dirN (n : ByteArray) : DirD := ⟨n, [], [], 1⟩
def name (w : Bool) : ByteArray := bif w then nB else nA
theorem name_ok (w : Bool) : okName (name w) = true := by cases w <;> simp [name, ok_A, ok_B]
theorem name_ne (w : Bool) : ¬ name w = name (!w) := by cases w <;> simp [name, AB, eq_comm]
theorem dir_ok (w : Bool) : validDir (dirN (name w)) = 0 := by cases w <;> decide +kernel
def pty0 (w : Bool) (R : List CdrD) : PartyD := ⟨name w, dirN (name w), R, []⟩
def pty1 (w : Bool) (l : List DealD) (D : List Disp) : PartyD := ⟨name w, dirN (name w), rcs w 0 l ++ rcs (!w) 0 l, D⟩
theorem pty0_valid (w : Bool) {l : List DealD} (hl : l.length ≤ 10) : validP (pty0 w (rcs w 0 l)) = 0 := by
  have hn := rcs_len w l 0
  refine valid_mk (name_ok w) (dir_ok w) rfl (by show (rcs w 0 l).length ≤ 256; omega) (fun c hc => ?_) (rcs_nodup w (by omega)) (by show 0 ≤ 256; omega) (fun d hd => by cases hd) List.nodup_nil
  obtain ⟨h1, ⟨h2, h3⟩, _⟩ := rcs_ok hl hc
  exact ⟨h1, .inl h2⟩
theorem pty0_validB (w : Bool) {R : List CdrD} {l : List DealD} (hl : l.length ≤ 10) (hs : R.Sublist (rcs w 0 l)) : validP (pty0 w R) = 0 := by
  have hn := rcs_len w l 0
  have hsl := hs.length_le
  refine valid_mk (name_ok w) (dir_ok w) rfl (by show R.length ≤ 256; omega) (fun c hc => ?_) ((hs.map _).nodup (rcs_nodup w (by omega))) (by show 0 ≤ 256; omega) (fun d hd => by cases hd) List.nodup_nil
  obtain ⟨h1, ⟨h2, h3⟩, _⟩ := rcs_ok hl (hs.subset hc)
  exact ⟨h1, .inl h2⟩
theorem pty1_valid (w : Bool) {l : List DealD} (hl : l.length ≤ 10) {D : List Disp} (h1 : D.length ≤ 256) (h2 : ∀ d ∈ D, validD d = 0 ∧ ∃ v c, c ∈ rcs v 0 l ∧ c.id = d.cdr ∧ d.who = c.provider) (h3 : (D.map Disp.cdr).Nodup) : validP (pty1 w l D) = 0 := by
  have hn := rcs_len w l 0
  have hm := rcs_len (!w) l 0
  have hmem : ∀ v c, c ∈ rcs v 0 l → c ∈ rcs w 0 l ++ rcs (!w) 0 l := fun v c hc => by
    rw [List.mem_append]
    cases v <;> cases w <;> simp [hc]
  refine valid_mk (name_ok w) (dir_ok w) rfl (by show (rcs w 0 l ++ rcs (!w) 0 l).length ≤ 256; rw [List.length_append]; omega) (fun c hc => ?_) (both_nodup w hl) h1 (fun d hd => ?_) h3
  · rcases List.mem_append.1 hc with hc | hc
    · obtain ⟨g1, ⟨g2, g3⟩, _⟩ := rcs_ok hl hc
      exact ⟨g1, .inl g2⟩
    · obtain ⟨g1, ⟨g2, g3⟩, _⟩ := rcs_ok hl hc
      refine ⟨g1, .inr ?_⟩
      rw [g3]; cases w <;> rfl
  · obtain ⟨g1, v, c, g2, g3, g4⟩ := h2 d hd
    exact ⟨g1, c, hmem v c g2, g3, g4⟩
end Go.Proofs.Ytalhbhbkdfmhgaa
