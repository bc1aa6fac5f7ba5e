/- Two partners (plain): claims, grants, and what both know at last. -/
import Derived.Test.YtalhbhbkdfmhgaaPla25d
namespace Go.Proofs.Ytalhbhbkdfmhgaa
set_option linter.all false
open Go.Idl
set_option maxRecDepth 100000
theorem rec_at {l : List DealD} {i : Nat} {d : DealD} (h : l[i]? = some d) : recD i d ∈ rcs d.back 0 l := rcs_mem.2 ⟨i, d, h, rfl, by rw [Nat.zero_add]; exact .inl rfl⟩
theorem get_at {w : Bool} {l : List DealD} (hl : l.length ≤ 10) {i : Nat} {d : DealD} (h : l[i]? = some d) : getI CdrD.id (rcs w 0 l ++ rcs (!w) 0 l) (cId i) = some (recD i d) := get_mem (f := CdrD.id) (both_nodup w hl) (x := recD i d) (both_mem.2 ⟨_, rec_at h⟩)
structure GoodD (l : List DealD) (D : List Disp) : Prop where
  len : D.length ≤ 20
  ok : ∀ d ∈ D, validD d = 0 ∧ ∃ v c, c ∈ rcs v 0 l ∧ c.id = d.cdr ∧ d.who = c.provider
  nd : (D.map Disp.cdr).Nodup
theorem GoodD.valid {l : List DealD} {D : List Disp} (h : GoodD l D) (hl : l.length ≤ 10) (w : Bool) : validP (pty1 w l D) = 0 := by
  have := h.len
  exact pty1_valid w hl (by omega) h.ok h.nd
theorem GoodD.about {l : List DealD} {D : List Disp} (h : GoodD l D) : AboutL l D := fun d hd => by
  obtain ⟨_, v, c, h1, h2, _⟩ := h.ok d hd
  exact ⟨v, c, h1, h2⟩
theorem good_one (w : Bool) (k : Nat) {l : List DealD} (hl : l.length ≤ 10) : GoodD l (dsp w k 0 l) := by
  have := dsp_len w k l 0
  refine ⟨by omega, fun d hd => ?_, dsp_nodup w k (by omega)⟩
  obtain ⟨h1, c, h2, h3, h4⟩ := dsp_rec hl hd
  exact ⟨h1, w, c, h2, h3, h4⟩
theorem good_two (w : Bool) (k k' : Nat) {l : List DealD} (hl : l.length ≤ 10) : GoodD l (dsp w k 0 l ++ dsp (!w) k' 0 l) := by
  have n1 := dsp_len w k l 0
  have n2 := dsp_len (!w) k' l 0
  refine ⟨by rw [List.length_append]; omega, fun d hd => ?_, dboth_nodup w k k' hl⟩
  rcases List.mem_append.1 hd with hd | hd
  · exact (good_one w k hl).ok d hd
  · exact (good_one (!w) k' hl).ok d hd
theorem good_sub {l : List DealD} {D E : List Disp} (h : GoodD l D) (hs : E.Sublist D) : GoodD l E := ⟨Nat.le_trans hs.length_le h.len, fun d hd => h.ok d (hs.subset hd), (hs.map _).nodup h.nd⟩
theorem dsp_pre (w : Bool) (k : Nat) (a b : List DealD) (i : Nat) : (dsp w k i a).Sublist (dsp w k i (a ++ b)) := by
  induction a generalizing i with
  | nil => exact List.nil_sublist _
  | cons x a ih =>
    rw [List.cons_append, dsp, dsp]
    exact (List.Sublist.refl _).append (ih (i + 1))
theorem claim_one {l pre suf : List DealD} {d : DealD} (hl : l.length ≤ 10) (he : l = pre ++ d :: suf) (hc : clm d = true) :
    claimS (pty1 (!d.back) l (dsp d.back 0 0 pre)) (cId pre.length) d.claim.val 1000 = (pty1 (!d.back) l (dsp d.back 0 0 (pre ++ [d])), 0) := by
  have hpl : pre.length < 10 := by rw [he, List.length_append, List.length_cons] at hl; omega
  obtain ⟨c0, c1, c2⟩ := clm_iff hc
  obtain ⟨n0, n1⟩ := net_in d
  have hat : l[pre.length]? = some d := by rw [he]; simp
  have hg : GoodD l (dsp d.back 0 0 pre) := good_sub (good_one d.back 0 hl) (by rw [he]; exact dsp_pre _ _ _ _ _)
  have hv := hg.valid hl (!d.back)
  have hget := get_at (w := !d.back) hl hat
  have hdn : disD 0 pre.length d = dopD pre.length d := by unfold disD; rw [if_neg (fun h => absurd h.1 (by omega))]
  have happ : dsp d.back 0 0 (pre ++ [d]) = dsp d.back 0 0 pre ++ [dopD pre.length d] := by rw [dsp_app, if_pos ⟨rfl, hc⟩, Nat.zero_add, hdn]
  have hpr : prD d = name (!d.back) := by unfold prD name; cases d.back <;> rfl
  have w1 : IntKind.i64.wrap ((pre.length : Int) + 30 + 43200) = (pre.length : Int) + 43230 := by rw [IntKind.wrap_i64]; omega
  have hop : openS (recD pre.length d) (name (!d.back)) d.claim.val 1000 = (dopD pre.length d, 0) := by
    rw [openS, rec_ok hpl]
    show (bif (0 : Int) != 0 then _ else bif false then _ else bif !decide (name (!d.back) = prD d) then _ else bif decide (d.claim.val < 1) || decide (d.claim.val > d.net.val) || decide (d.claim.val > 36028797018963968) || decide ((1000 : Int) < (pre.length : Int) + 30) || decide ((1000 : Int) > 268435456) then _ else bif decide ((1000 : Int) > IntKind.i64.wrap ((pre.length : Int) + 30 + 43200)) then _ else _) = _
    rw [w1, decide_eq_true hpr.symm, decide_eq_false (by omega), decide_eq_false (by omega), decide_eq_false (by omega), decide_eq_false (by omega), decide_eq_false (by omega), decide_eq_false (by omega)]
    show ((⟨cId pre.length, name (!d.back), 1, 1000, d.claim.val, 0⟩ : Disp), (0 : Int)) = _
    rw [← hpr]; rfl
  have hno : hasI Disp.cdr (dsp d.back 0 0 pre) (cId pre.length) = false := has_not fun x hx hex => by
    obtain ⟨j, e, h1, _, _, h4⟩ := dsp_mem.1 hx
    have hj := (List.getElem?_eq_some_iff.1 h1).1
    rw [h4, disD_cdr] at hex
    have := cId_inj (by omega) hpl hex
    omega
  have hlen := hg.len
  rw [claimS, hv]
  show (bif !((0 : Int) == 0) then _ else match getI CdrD.id (rcs (!d.back) 0 l ++ rcs (!!d.back) 0 l) (cId pre.length) with | none => _ | some c => _) = _
  rw [hget]
  show (bif !decide (prD d = name (!d.back)) then _ else bif !((openS (recD pre.length d) (name (!d.back)) d.claim.val 1000).2 == 0) then _ else bif hasI Disp.cdr (dsp d.back 0 0 pre) (cId pre.length) then _ else bif decide (((dsp d.back 0 0 pre).length : Int) ≥ 256) then _ else
    ((⟨name (!d.back), dirN (name (!d.back)), rcs (!d.back) 0 l ++ rcs (!!d.back) 0 l, dsp d.back 0 0 pre ++ [(openS (recD pre.length d) (name (!d.back)) d.claim.val 1000).1]⟩ : PartyD), (0 : Int))) = _
  rw [hop, hno, decide_eq_true hpr, decide_eq_false (by omega), happ]
  rfl
theorem dsp_skip {w : Bool} {k : Nat} {pre : List DealD} {d : DealD} (h : ¬ (d.back = w ∧ clm d = true)) : dsp w k 0 (pre ++ [d]) = dsp w k 0 pre := by rw [dsp_app, if_neg h, List.append_nil]
theorem disj_has {w : Bool} {k k' : Nat} {l : List DealD} (hl : l.length ≤ 10) {x : Disp} (hx : x ∈ dsp (!w) k' 0 l) : hasI Disp.cdr (dsp w k 0 l) x.cdr = false := has_not fun y hy he => by
  have := (dis_of hl hy hx he).1
  cases w <;> cases this
theorem mg_disj {w : Bool} {k k' : Nat} {l : List DealD} (hl : l.length ≤ 10) : mgD (dsp w k 0 l) (dsp (!w) k' 0 l) = dsp w k 0 l ++ dsp (!w) k' 0 l := by
  rw [mg_all (dsp_nodup w k (by omega)) (dsp_nodup (!w) k' (by omega))]
  congr 1
  · conv => rhs; rw [← List.map_id (dsp w k 0 l)]
    apply List.map_congr_left
    intro x hx
    have h1 : getI Disp.cdr (dsp (!w) k' 0 l) x.cdr = none := get_not fun y hy he => by
      have := (dis_of hl hx hy he.symm).1
      cases w <;> cases this
    rw [mgU, h1]; rfl
  · rw [List.filter_eq_self]
    intro x hx
    rw [disj_has hl hx]; rfl
theorem sync_second {l : List DealD} (hl : l.length ≤ 10) : syncS (pty1 false l (dsp true 0 0 l)) (pty1 true l (dsp false 0 0 l)) = (pty1 false l (dsp true 0 0 l ++ dsp false 0 0 l), pty1 true l (dsp false 0 0 l ++ dsp true 0 0 l), 0) := by
  have m1 := mg_disj (w := true) (k := 0) (k' := 0) hl
  have m2 := mg_disj (w := false) (k := 0) (k' := 0) hl
  rw [Bool.not_true] at m1
  rw [Bool.not_false] at m2
  have n1 := dsp_len true 0 l 0
  have n2 := dsp_len false 0 l 0
  have := sync_next hl (good_one true 0 hl).about (good_one false 0 hl).about (by rw [m1, List.length_append]; omega) (by rw [m2, List.length_append]; omega)
  rw [this, m1, m2]
theorem dsp_step {w : Bool} {k i : Nat} : ∀ {l : List DealD} {d : DealD}, i ≤ k → l[k - i]? = some d → ¬ (d.back = w ∧ grd d = true) → dsp w (k + 1) i l = dsp w k i l
  | [], d, _, h, _ => by simp at h
  | x :: l, d, hik, h, hn => by
    rw [dsp, dsp]
    by_cases hi : i = k
    · subst hi
      rw [Nat.sub_self] at h
      cases h
      have e2 : dsp w (i + 1) (i + 1) l = dsp w i (i + 1) l := by
        have key : ∀ (l : List DealD) (j : Nat), i + 1 ≤ j → dsp w (i + 1) j l = dsp w i j l := by
          intro l
          induction l with
          | nil => intro j _; rfl
          | cons y l ih =>
            intro j hj
            rw [dsp, dsp, ih (j + 1) (by omega)]
            have : disD (i + 1) j y = disD i j y := by unfold disD; rw [if_neg (fun h => absurd h.1 (by omega)), if_neg (fun h => absurd h.1 (by omega))]
            rw [this]
        exact key l (i + 1) (Nat.le_refl _)
      rw [e2]
      by_cases hb : x.back = w ∧ clm x = true
      · have hg : ¬ grd x = true := fun h => hn ⟨hb.1, h⟩
        have : disD (i + 1) i x = disD i i x := by unfold disD; rw [if_neg (fun h => hg h.2), if_neg (fun h => hg h.2)]
        rw [this]
      · rw [if_neg hb, if_neg hb]
    · have e1 : disD (k + 1) i x = disD k i x := by
        unfold disD
        by_cases hg : grd x = true
        · rw [if_pos ⟨by omega, hg⟩, if_pos ⟨by omega, hg⟩]
        · rw [if_neg (fun h => hg h.2), if_neg (fun h => hg h.2)]
      rw [e1, dsp_step (l := l) (i := i + 1) (d := d) (by omega) (by rw [show k - i = (k - (i + 1)) + 1 by omega, List.getElem?_cons_succ] at h; exact h) hn]
theorem dsp_set {w : Bool} {k : Nat} {l : List DealD} {d : DealD} (hl : l.length ≤ 10) (h : l[k]? = some d) (hb : d.back = w) (hg : grd d = true) : (dsp w k 0 l).map (fun y => if y.cdr = cId k then dfiD k d else y) = dsp w (k + 1) 0 l := by
  have hk := (List.getElem?_eq_some_iff.1 h).1
  have key : ∀ (m : List DealD) (i : Nat), i + m.length ≤ 10 → (i ≤ k → k < i + m.length → m[k - i]? = some d) → (dsp w k i m).map (fun y => if y.cdr = cId k then dfiD k d else y) = dsp w (k + 1) i m := by
    intro m
    induction m with
    | nil => intro i _ _; rfl
    | cons x m ih =>
      intro i him hat
      rw [List.length_cons] at him hat
      rw [dsp, dsp, List.map_append, ih (i + 1) (by omega) fun h1 h2 => by
        have := hat (by omega) (by omega)
        rw [show k - i = (k - (i + 1)) + 1 by omega, List.getElem?_cons_succ] at this
        exact this]
      congr 1
      split
      · rename_i hbc
        rw [List.map_cons, List.map_nil, disD_cdr]
        by_cases hi : i = k
        · subst hi
          have := hat (Nat.le_refl _) (by omega)
          rw [Nat.sub_self] at this
          cases this
          rw [if_pos rfl]
          have : disD (i + 1) i d = dfiD i d := by unfold disD; rw [if_pos ⟨by omega, hg⟩]
          rw [this]
        · rw [if_neg (fun e => hi (cId_inj (by omega) (by omega) e))]
          have : disD (k + 1) i x = disD k i x := by
            unfold disD
            by_cases hg : grd x = true
            · by_cases hik : i < k
              · rw [if_pos ⟨by omega, hg⟩, if_pos ⟨hik, hg⟩]
              · rw [if_neg (fun h => absurd h.1 (by omega)), if_neg (fun h => absurd h.1 hik)]
            · rw [if_neg (fun h => hg h.2), if_neg (fun h => hg h.2)]
          rw [this]
      · rfl
  exact key l 0 (by omega) fun _ _ => h
theorem map_keep {k : Nat} {d : Disp} {D : List Disp} (h : ∀ y ∈ D, y.cdr ≠ cId k) : D.map (fun y => if y.cdr = cId k then d else y) = D := by
  conv => rhs; rw [← List.map_id D]
  exact List.map_congr_left fun y hy => by rw [if_neg (h y hy)]; rfl
theorem act_one {l : List DealD} {k : Nat} {d : DealD} (hl : l.length ≤ 10) (h : l[k]? = some d) (hg : grd d = true) :
    actS (pty1 d.back l (dsp (!d.back) 0 0 l ++ dsp d.back k 0 l)) (cId k) 3 d.granted.val 2000 = (pty1 d.back l (dsp (!d.back) 0 0 l ++ dsp d.back (k + 1) 0 l), 0) := by
  have hk := (List.getElem?_eq_some_iff.1 h).1
  obtain ⟨hc, g1, g2⟩ := grd_iff hg
  obtain ⟨c0, c1, c2⟩ := clm_iff hc
  have hG : GoodD l (dsp (!d.back) 0 0 l ++ dsp d.back k 0 l) := by
    have := good_two (!d.back) 0 k hl
    rw [Bool.not_not] at this
    exact this
  have hv := hG.valid hl d.back
  have hdn : disD k k d = dopD k d := by unfold disD; rw [if_neg (fun h => absurd h.1 (by omega))]
  have hmem : dopD k d ∈ dsp (!d.back) 0 0 l ++ dsp d.back k 0 l := List.mem_append_right _ (dsp_mem.2 ⟨k, d, h, rfl, hc, by rw [Nat.zero_add, hdn]⟩)
  have hget : getI Disp.cdr (dsp (!d.back) 0 0 l ++ dsp d.back k 0 l) (cId k) = some (dopD k d) := get_mem (f := Disp.cdr) hG.nd hmem
  have hval : validD (dopD k d) = 0 := (hG.ok _ hmem).1
  have hne : ¬ name d.back = prD d := by unfold prD name; cases d.back <;> simp [AB, Ne.symm AB, eq_comm]
  have hst : stepS (dopD k d) (name d.back) 3 d.granted.val 2000 = (dfiD k d, 0) := by
    have r1 : rangeD (dopD k d, 3, d.granted.val, 2000, ()) = true := by
      show (decide ((1 : Int) ≤ 3 ∧ (3 : Int) ≤ 5 ∧ (1000 : Int) ≤ 2000 ∧ (2000 : Int) ≤ 268435456) && (if (3 : Int) = 3 then decide (1 ≤ d.granted.val ∧ d.granted.val ≤ d.claim.val) else decide (d.granted.val = 0))) = true
      rw [if_pos rfl, decide_eq_true (p := 1 ≤ d.granted.val ∧ d.granted.val ≤ d.claim.val) ⟨g1, g2⟩]
      decide
    rw [stepS, if_neg (by rw [hval]; decide), if_neg (by rw [name_ok]; decide), if_neg (by rw [r1]; decide), if_neg (by show ¬ (1 : Int) ≥ 4; decide), if_neg, if_neg (fun h => absurd h.1 (by decide)), if_neg]
    · rfl
    · show ¬ possD (dopD k d) 3 2000 = false
      rw [possD, if_neg (by decide), if_neg (by decide), if_neg (by decide)]; decide
    · show ¬ (((3 : Int) == 2 || (3 : Int) == 5) != decide (name d.back = prD d)) = true
      rw [decide_eq_false hne]; decide
  rw [actS, hv]
  show (bif !((0 : Int) == 0) then _ else match getI Disp.cdr (dsp (!d.back) 0 0 l ++ dsp d.back k 0 l) (cId k) with | none => _ | some x => _) = _
  rw [hget]
  show (bif !((stepS (dopD k d) (name d.back) 3 d.granted.val 2000).2 == 0) then _ else ((⟨name d.back, dirN (name d.back), rcs d.back 0 l ++ rcs (!d.back) 0 l, setI (dsp (!d.back) 0 0 l ++ dsp d.back k 0 l) (cId k) (stepS (dopD k d) (name d.back) 3 d.granted.val 2000).1⟩ : PartyD), (0 : Int))) = _
  rw [hst]
  show ((⟨name d.back, dirN (name d.back), rcs d.back 0 l ++ rcs (!d.back) 0 l, setI (dsp (!d.back) 0 0 l ++ dsp d.back k 0 l) (cId k) (dfiD k d)⟩ : PartyD), (0 : Int)) = _
  rw [idx_set (id := cId k) hG.nd hmem rfl, List.map_append, dsp_set hl h rfl hg, map_keep]
  · rfl
  · intro y hy he
    obtain ⟨j, e, h1, h2, _, h4⟩ := dsp_mem.1 hy
    have hj := (List.getElem?_eq_some_iff.1 h1).1
    rw [h4, disD_cdr] at he
    have := cId_inj (by omega) (by omega) he
    rw [Nat.zero_add] at this
    subst this
    rw [h] at h1
    cases h1
    cases hb : d.back <;> rw [hb] at h2 <;> cases h2
end Go.Proofs.Ytalhbhbkdfmhgaa
