/- Two partners (plain): bills, exchanges, claims and grants. -/
import Derived.Test.YtalhbhbkdfmhgaaPla25c
namespace Go.Proofs.Ytalhbhbkdfmhgaa
set_option linter.all false
open Go.Idl
set_option maxRecDepth 100000
theorem fine_ok {p : PartyD} (h1 : p.cdrs.length ≤ 1000) (h2 : p.disputes.length ≤ 1000) (h3 : p.dir.objects = []) (h4 : p.dir.marks = []) (h5 : ∀ c ∈ p.cdrs, c.items.length ≤ 1 ∧ c.currency.size = 3) : okS p = true ∧ okDat p.dir.objects = true := by
  constructor
  · rw [okS_iff]
    refine ⟨⟨by omega, by omega, by rw [h3]; simp, by rw [h4]; simp, ?_⟩, ?_⟩
    · rw [okCur, List.all_eq_true]
      intro c hc
      have := (h5 c hc).2
      simp [this]
    · rw [okIt, List.all_eq_true]
      intro c hc
      have := (h5 c hc).1
      simp; omega
  · rw [h3]; rfl
theorem rcs_small {w : Bool} {l : List DealD} (hl : l.length ≤ 10) {c : CdrD} (h : c ∈ rcs w 0 l) : c.items.length ≤ 1 ∧ c.currency.size = 3 := (rcs_ok hl h).2.2
theorem pty0_ok (w : Bool) {l : List DealD} (hl : l.length ≤ 10) {R : List CdrD} (hs : R.Sublist (rcs w 0 l)) : okS (pty0 w R) = true ∧ okDat (pty0 w R).dir.objects = true := by
  have hn := rcs_len w l 0
  have hsl := hs.length_le
  exact fine_ok (by show R.length ≤ 1000; omega) (by show 0 ≤ 1000; omega) rfl rfl fun c hc => rcs_small hl (hs.subset hc)
theorem pty1_ok (w : Bool) {l : List DealD} (hl : l.length ≤ 10) {D : List Disp} (hD : D.length ≤ 100) : okS (pty1 w l D) = true ∧ okDat (pty1 w l D).dir.objects = true := by
  have hn := rcs_len w l 0
  have hm := rcs_len (!w) l 0
  refine fine_ok (by show (rcs w 0 l ++ rcs (!w) 0 l).length ≤ 1000; rw [List.length_append]; omega) (by show D.length ≤ 1000; omega) rfl rfl fun c hc => ?_
  rcases List.mem_append.1 hc with hc | hc
  · exact rcs_small hl hc
  · exact rcs_small hl hc
theorem op_name (d : DealD) : opD d = name d.back := rfl
theorem bill_rec {l pre suf : List DealD} {d : DealD} (hl : l.length ≤ 10) (he : l = pre ++ d :: suf) : billS (pty0 d.back (rcs d.back 0 pre)) (recD pre.length d) = (pty0 d.back (rcs d.back 0 pre ++ [recD pre.length d]), 0) ∧ (rcs d.back 0 pre ++ [recD pre.length d]).Sublist (rcs d.back 0 l) := by
  have hpl : pre.length < 10 := by rw [he, List.length_append, List.length_cons] at hl; omega
  have hsub : (rcs d.back 0 pre ++ [recD pre.length d]).Sublist (rcs d.back 0 l) := by
    rw [he, show pre ++ d :: suf = (pre ++ [d]) ++ suf by simp]
    have key : ∀ (a b : List DealD) (i : Nat), (rcs d.back i a).Sublist (rcs d.back i (a ++ b)) := by
      intro a
      induction a with
      | nil => intro b i; exact List.nil_sublist _
      | cons x a ih =>
        intro b i
        rw [List.cons_append, rcs, rcs]
        exact (List.Sublist.refl _).append (ih b (i + 1))
    refine List.Sublist.trans ?_ (key (pre ++ [d]) suf 0)
    rw [rcs_app, if_pos rfl, Nat.zero_add]
    refine (List.Sublist.refl _).append ?_
    unfold billD
    split
    · exact (List.Sublist.refl _).cons₂ _ |>.trans (by simp)
    · exact List.Sublist.refl _
  have hv := pty0_validB d.back hl (List.Sublist.trans (List.sublist_append_left _ [recD pre.length d]) hsub)
  have hnd := (hsub.map CdrD.id).nodup (rcs_nodup d.back (by omega))
  have hno : hasI CdrD.id (rcs d.back 0 pre) (recD pre.length d).id = false := nodup_has (xs := []) hnd
  have hlen := hsub.length_le
  have hn := rcs_len d.back l 0
  rw [List.length_append] at hlen
  refine ⟨?_, hsub⟩
  rw [billS, hv, rec_ok hpl]
  show (bif !decide (opD d = name d.back) then _ else bif hasI CdrD.id (rcs d.back 0 pre) (recD pre.length d).id then _ else bif !((0 : Int) == 0) then _ else bif decide (((rcs d.back 0 pre).length : Int) ≥ 256) then _ else _) = _
  rw [decide_eq_true (op_name d), hno, decide_eq_false (by omega)]
  rfl
theorem bill_cre {l pre suf : List DealD} {d : DealD} (hl : l.length ≤ 10) (he : l = pre ++ d :: suf) (hc : d.credited = true) : billS (pty0 d.back (rcs d.back 0 pre ++ [recD pre.length d])) (creD pre.length d) = (pty0 d.back (rcs d.back 0 (pre ++ [d])), 0) := by
  have hpl : pre.length < 10 := by rw [he, List.length_append, List.length_cons] at hl; omega
  obtain ⟨n0, n1⟩ := net_in d
  have hsub : (rcs d.back 0 (pre ++ [d])).Sublist (rcs d.back 0 l) := by
    rw [he, show pre ++ d :: suf = (pre ++ [d]) ++ suf by simp]
    have key : ∀ (a b : List DealD) (i : Nat), (rcs d.back i a).Sublist (rcs d.back i (a ++ b)) := by
      intro a
      induction a with
      | nil => intro b i; exact List.nil_sublist _
      | cons x a ih =>
        intro b i
        rw [List.cons_append, rcs, rcs]
        exact (List.Sublist.refl _).append (ih b (i + 1))
    exact key (pre ++ [d]) suf 0
  have e0 : rcs d.back 0 (pre ++ [d]) = (rcs d.back 0 pre ++ [recD pre.length d]) ++ [creD pre.length d] := by
    rw [rcs_app, if_pos rfl, Nat.zero_add, billD, if_pos hc]; simp
  have hs1 := (bill_rec hl he).2
  have hv := pty0_validB d.back hl hs1
  have hnd := (hsub.map CdrD.id).nodup (rcs_nodup d.back (by omega))
  rw [e0] at hnd
  have hno : hasI CdrD.id (rcs d.back 0 pre ++ [recD pre.length d]) (creD pre.length d).id = false := nodup_has (xs := []) hnd
  have hlen := hs1.length_le
  have hn := rcs_len d.back l 0
  have hnd1 := (hs1.map CdrD.id).nodup (rcs_nodup d.back (by omega))
  have hget : getI CdrD.id (rcs d.back 0 pre ++ [recD pre.length d]) (cId pre.length) = some (recD pre.length d) := get_mem (f := CdrD.id) hnd1 (x := recD pre.length d) (by simp)
  have w1 : IntKind.i64.wrap (0 - -d.net.val) = d.net.val := by rw [IntKind.wrap_i64]; omega
  have hany : (rcs d.back 0 pre ++ [recD pre.length d]).any (fun o => o.credit && decide (o.ref = cId pre.length)) = false := by
    rw [List.any_eq_false]
    intro o ho h
    rw [Bool.and_eq_true, decide_eq_true_eq] at h
    rcases List.mem_append.1 ho with ho | ho
    · obtain ⟨j, e, h1, _, h3⟩ := rcs_mem.1 ho
      have hj := (List.getElem?_eq_some_iff.1 h1).1
      rcases h3 with rfl | ⟨_, rfl⟩
      · cases h.1
      · have : cId (0 + j) = cId pre.length := h.2
        have := cId_inj (by omega) hpl this
        omega
    · simp at ho
      subst ho
      cases h.1
  have hcrd : crdS (pty0 d.back (rcs d.back 0 pre ++ [recD pre.length d])) (creD pre.length d) = 0 := by
    rw [crdS]
    rw [show getI CdrD.id (pty0 d.back (rcs d.back 0 pre ++ [recD pre.length d])).cdrs (creD pre.length d).ref = some (recD pre.length d) from hget]
    dsimp only
    have hb : crdB (recD pre.length d) (creD pre.length d) = false := by
      show (!decide (prD d = prD d) || !decide (sId pre.length = sId pre.length) || !decide ((⟨#[69, 85, 82]⟩ : ByteArray) = ⟨#[69, 85, 82]⟩) || false || (d.net.val != IntKind.i64.wrap (0 - -d.net.val))) = false
      rw [w1]; simp
    rw [hb, cond_false]
    show (bif (rcs d.back 0 pre ++ [recD pre.length d]).any (fun o => o.credit && decide (o.ref = cId pre.length)) then _ else _) = _
    rw [hany]; rfl
  have hce : crdE (pty0 d.back (rcs d.back 0 pre ++ [recD pre.length d])) (creD pre.length d) = 0 := hcrd
  rw [billS, hv, cre_ok hpl, hce]
  show (bif !decide (opD d = name d.back) then _ else bif hasI CdrD.id (rcs d.back 0 pre ++ [recD pre.length d]) (creD pre.length d).id then _ else bif !((0 : Int) == 0) then _ else bif decide (((rcs d.back 0 pre ++ [recD pre.length d]).length : Int) ≥ 256) then _ else (pty0 d.back ((rcs d.back 0 pre ++ [recD pre.length d]) ++ [creD pre.length d]), 0)) = _
  rw [decide_eq_true (op_name d), hno, decide_eq_false (by omega), e0]
  rfl
theorem dir_same (w : Bool) (p q : PartyD) (h1 : p.dir = dirN (name w)) (h2 : q.dir = dirN (name (!w))) : dirA p q = dirN (name w) := by
  rw [dirA, newsR, h1, h2]
  cases w <;> kernel_rfl
theorem pair_rcs {w : Bool} {l : List DealD} (hl : l.length ≤ 10) {c : CdrD} (h : c ∈ rcs w 0 l) : pairB nA nB c = true ∧ pairB nB nA c = true := by
  obtain ⟨_, ⟨h2, h3⟩, _⟩ := rcs_ok hl h
  cases w
  · exact ⟨by simp [pairB, h2, h3], by simp [pairB, h2, h3]⟩
  · exact ⟨by simp [pairB, h2, h3], by simp [pairB, h2, h3]⟩
theorem mis_all {w : Bool} {l : List DealD} (hl : l.length ≤ 10) : misR (pty0 w (rcs w 0 l)) (pty0 (!w) (rcs (!w) 0 l)) = rcs w 0 l := by
  rw [misR]
  show (rcs w 0 l).filter _ = _
  rw [List.filter_eq_self]
  intro c hc
  have h1 : hasI CdrD.id (rcs (!w) 0 l) c.id = false := has_not fun x hx he => by
    have := (rec_of hl hx hc he).1
    cases w <;> cases this
  obtain ⟨p1, p2⟩ := pair_rcs hl hc
  show (!hasI CdrD.id (rcs (!w) 0 l) c.id && pairB (name w) (name (!w)) c) = true
  rw [h1]
  cases w
  · exact p1
  · exact p2
theorem con_no {w : Bool} {l : List DealD} (hl : l.length ≤ 10) : conR (pty0 w (rcs w 0 l)) (pty0 (!w) (rcs (!w) 0 l)) = false := by
  rw [conR]
  show (rcs w 0 l).any (conB (rcs (!w) 0 l)) = false
  rw [List.any_eq_false]
  intro c hc
  have h1 : getI CdrD.id (rcs (!w) 0 l) c.id = none := get_not fun x hx he => by
    have := (rec_of hl hx hc he).1
    cases w <;> cases this
  rw [conB, h1]; simp
theorem sync_first {l : List DealD} (hl : l.length ≤ 10) : syncS (pty0 false (rcs false 0 l)) (pty0 true (rcs true 0 l)) = (pty1 false l [], pty1 true l [], 0) := by
  have h1 := con_no (w := false) hl
  have h2 := mis_all (w := false) hl
  have h3 := mis_all (w := true) hl
  have n1 := rcs_len false l 0
  have n2 := rcs_len true l 0
  rw [Bool.not_false] at h1 h2
  rw [Bool.not_true] at h3
  have d1 := dir_same false (pty0 false (rcs false 0 l)) (pty0 true (rcs true 0 l)) rfl rfl
  have d2 := dir_same true (pty0 true (rcs true 0 l)) (pty0 false (rcs false 0 l)) rfl rfl
  have o1 : overR (pty0 false (rcs false 0 l)) (pty0 true (rcs true 0 l)) = false := by
    rw [overR, h2, h3]
    show (decide (((rcs false 0 l).length : Int) + ((rcs true 0 l).length : Int) > 256) || decide (((rcs true 0 l).length : Int) + ((rcs false 0 l).length : Int) > 256)) = false
    rw [decide_eq_false (by omega), decide_eq_false (by omega)]; rfl
  have o2 : overD (pty0 false (rcs false 0 l)) (pty0 true (rcs true 0 l)) = false := rfl
  rw [syncS, h1, o1, o2, cond_false, cond_false, cond_false, newA, newA, d1, d2, h2, h3]
  rfl
theorem both_mem {w : Bool} {l : List DealD} {c : CdrD} : c ∈ rcs w 0 l ++ rcs (!w) 0 l ↔ ∃ v, c ∈ rcs v 0 l := by
  rw [List.mem_append]
  constructor
  · rintro (h | h)
    · exact ⟨_, h⟩
    · exact ⟨_, h⟩
  · rintro ⟨v, h⟩
    cases v <;> cases w <;> simp [h]
theorem mis_none {w : Bool} {l : List DealD} (D E : List Disp) : misR (pty1 w l D) (pty1 (!w) l E) = [] := by
  rw [misR, List.filter_eq_nil_iff]
  intro c hc
  have : hasI CdrD.id (pty1 (!w) l E).cdrs c.id = true := hasI_mem.2 ⟨c, both_mem.2 (both_mem.1 hc), rfl⟩
  rw [misB, this]; simp
theorem con_same {w : Bool} {l : List DealD} (hl : l.length ≤ 10) (D E : List Disp) : conR (pty1 w l D) (pty1 (!w) l E) = false := by
  rw [conR, List.any_eq_false]
  intro c hc
  have hn := both_nodup (!w) hl
  have h1 : getI CdrD.id (pty1 (!w) l E).cdrs c.id = some c := get_mem hn (both_mem.2 (both_mem.1 hc))
  rw [conB, h1]
  dsimp only
  rw [eqC_iff.2 rfl]; simp
def AboutL (l : List DealD) (D : List Disp) : Prop := ∀ d ∈ D, ∃ v c, c ∈ rcs v 0 l ∧ c.id = d.cdr
theorem pair_all {w v : Bool} {l : List DealD} (hl : l.length ≤ 10) {D E : List Disp} (h : AboutL l D) : pairDs (halfP (pty1 w l D) (pty1 (!w) l E)) (name v) (name (!v)) = D := by
  rw [pairDs]
  show D.filter (pairD (rcs w 0 l ++ rcs (!w) 0 l ++ misR (pty1 (!w) l E) (pty1 w l D)) _ _) = D
  rw [List.filter_eq_self]
  intro d hd
  obtain ⟨v', c, hc, he⟩ := h d hd
  obtain ⟨p1, p2⟩ := pair_rcs hl hc
  rw [pairD, List.any_eq_true]
  refine ⟨c, List.mem_append_left _ (both_mem.2 ⟨v', hc⟩), ?_⟩
  rw [Bool.and_eq_true, decide_eq_true_eq]
  refine ⟨?_, he⟩
  cases v
  · exact p1
  · exact p2
theorem sync_next {l : List DealD} (hl : l.length ≤ 10) {D E : List Disp} (hD : AboutL l D) (hE : AboutL l E) (l1 : (mgD D E).length ≤ 256) (l2 : (mgD E D).length ≤ 256) :
    syncS (pty1 false l D) (pty1 true l E) = (pty1 false l (mgD D E), pty1 true l (mgD E D), 0) := by
  have h1 := con_same (w := false) hl D E
  have h2 := mis_none (w := false) (l := l) D E
  have h3 := mis_none (w := true) (l := l) E D
  have p1 := pair_all (w := true) (v := false) (E := D) hl hE
  have p2 := pair_all (w := false) (v := false) (E := E) hl hD
  rw [Bool.not_false] at h1 h2 p2
  rw [Bool.not_true] at h3 p1
  rw [Bool.not_false] at p1
  have n1 := rcs_len false l 0
  have n2 := rcs_len true l 0
  have d1 := dir_same false (pty1 false l D) (pty1 true l E) rfl rfl
  have d2 := dir_same true (pty1 true l E) (pty1 false l D) rfl rfl
  have x1 : dsX (pty1 false l D) (pty1 true l E) (name false) (name true) = mgD D E := by rw [dsX, p1]; rfl
  have x2 : dsX (pty1 true l E) (pty1 false l D) (name false) (name true) = mgD E D := by rw [dsX, p2]; rfl
  have o1 : overR (pty1 false l D) (pty1 true l E) = false := by
    rw [overR, h2, h3]
    show (decide (((rcs false 0 l ++ rcs true 0 l).length : Int) + 0 > 256) || decide (((rcs true 0 l ++ rcs false 0 l).length : Int) + 0 > 256)) = false
    rw [List.length_append, List.length_append, decide_eq_false (by omega), decide_eq_false (by omega)]; rfl
  have o2 : overD (pty1 false l D) (pty1 true l E) = false := by
    rw [overD]
    show (decide (((dsX (pty1 false l D) (pty1 true l E) (name false) (name true)).length : Int) > 256) || decide (((dsX (pty1 true l E) (pty1 false l D) (name false) (name true)).length : Int) > 256)) = false
    rw [x1, x2, decide_eq_false (by omega), decide_eq_false (by omega)]; rfl
  rw [syncS, h1, o1, o2, cond_false, cond_false, cond_false]
  show (newA (pty1 false l D) (pty1 true l E) (name false) (name true), newA (pty1 true l E) (pty1 false l D) (name false) (name true), (0 : Int)) = _
  rw [newA, newA, d1, d2, h2, h3, x1, x2]
  simp [pty1]
end Go.Proofs.Ytalhbhbkdfmhgaa
