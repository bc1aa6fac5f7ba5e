/- Two partners (plain): the last exchange, agreement, and the balance. -/
import Derived.Test.YtalhbhbkdfmhgaaPla25e
import Derived.Test.YtalhbhbkdfmhgaaSet25b
namespace Go.Proofs.Ytalhbhbkdfmhgaa
set_option linter.all false
open Go.Idl
set_option maxRecDepth 100000
theorem dsp_map {w : Bool} {k k' : Nat} (f : Disp → Disp) : ∀ (l : List DealD) (i : Nat), (∀ j d, l[j]? = some d → d.back = w → clm d = true → f (disD k (i + j) d) = disD k' (i + j) d) → (dsp w k i l).map f = dsp w k' i l
  | [], i, _ => rfl
  | x :: l, i, h => by
    rw [dsp, dsp, List.map_append, dsp_map f l (i + 1) fun j d h1 h2 h3 => by
      have := h (j + 1) d (by rw [List.getElem?_cons_succ]; exact h1) h2 h3
      rw [show i + (j + 1) = i + 1 + j by omega] at this
      exact this]
    congr 1
    split
    · rename_i hb
      rw [List.map_cons, List.map_nil]
      have := h 0 x rfl hb.1 hb.2
      rw [Nat.add_zero] at this
      rw [this]
    · rfl
theorem fur_up {n j : Nat} {d : DealD} (hj : j < n) : furS (disD 0 j d) (disD n j d) = disD n j d ∧ furS (disD n j d) (disD 0 j d) = disD n j d := by
  have h0 : disD 0 j d = dopD j d := by unfold disD; rw [if_neg (fun h => absurd h.1 (by omega))]
  rw [h0]
  by_cases hg : grd d = true
  · have h1 : disD n j d = dfiD j d := by unfold disD; rw [if_pos ⟨hj, hg⟩]
    rw [h1]
    exact ⟨rfl, rfl⟩
  · have h1 : disD n j d = dopD j d := by unfold disD; rw [if_neg (fun h => hg h.2)]
    rw [h1]
    have : furS (dopD j d) (dopD j d) = dopD j d := by unfold furS; cases decide (ordS (dopD j d) (dopD j d) < 0) <;> rfl
    exact ⟨this, this⟩
theorem mg_last {w : Bool} {l : List DealD} (hl : l.length ≤ 10) : mgD (dsp (!w) 0 0 l ++ dsp w l.length 0 l) (dsp w 0 0 l ++ dsp (!w) l.length 0 l) = dsp (!w) l.length 0 l ++ dsp w l.length 0 l := by
  have nd1 := dboth_nodup (!w) 0 l.length hl
  rw [Bool.not_not] at nd1
  have nd2 := dboth_nodup w 0 l.length hl
  rw [mg_all nd1 nd2]
  have hf : ((dsp w 0 0 l ++ dsp (!w) l.length 0 l).filter fun d => !hasI Disp.cdr (dsp (!w) 0 0 l ++ dsp w l.length 0 l) d.cdr) = [] := by
    rw [List.filter_eq_nil_iff]
    intro x hx
    have : hasI Disp.cdr (dsp (!w) 0 0 l ++ dsp w l.length 0 l) x.cdr = true := by
      rw [hasI_mem]
      rcases List.mem_append.1 hx with hx | hx
      · obtain ⟨j, d, h1, h2, h3, h4⟩ := dsp_mem.1 hx
        exact ⟨disD l.length (0 + j) d, List.mem_append_right _ (dsp_mem.2 ⟨j, d, h1, h2, h3, rfl⟩), by rw [h4, disD_cdr, disD_cdr]⟩
      · obtain ⟨j, d, h1, h2, h3, h4⟩ := dsp_mem.1 hx
        exact ⟨disD 0 (0 + j) d, List.mem_append_left _ (dsp_mem.2 ⟨j, d, h1, h2, h3, rfl⟩), by rw [h4, disD_cdr, disD_cdr]⟩
    rw [this]; simp
  rw [hf, List.append_nil, List.map_append]
  congr 1
  · refine dsp_map _ l 0 fun j d h1 h2 h3 => ?_
    rw [Nat.zero_add]
    have hj := (List.getElem?_eq_some_iff.1 h1).1
    have hget : getI Disp.cdr (dsp w 0 0 l ++ dsp (!w) l.length 0 l) (cId j) = some (disD l.length j d) := by
      have := get_mem (f := Disp.cdr) nd2 (x := disD l.length j d) (List.mem_append_right _ (dsp_mem.2 ⟨j, d, h1, h2, h3, by rw [Nat.zero_add]⟩))
      rw [disD_cdr] at this
      exact this
    rw [mgU, disD_cdr, hget]
    exact (fur_up hj).1
  · refine dsp_map _ l 0 fun j d h1 h2 h3 => ?_
    rw [Nat.zero_add]
    have hj := (List.getElem?_eq_some_iff.1 h1).1
    have hget : getI Disp.cdr (dsp w 0 0 l ++ dsp (!w) l.length 0 l) (cId j) = some (disD 0 j d) := by
      have := get_mem (f := Disp.cdr) nd2 (x := disD 0 j d) (List.mem_append_left _ (dsp_mem.2 ⟨j, d, h1, h2, h3, by rw [Nat.zero_add]⟩))
      rw [disD_cdr] at this
      exact this
    rw [mgU, disD_cdr, hget]
    exact (fur_up hj).2
def finD (w : Bool) (l : List DealD) : List Disp := dsp w l.length 0 l
def finP (w : Bool) (l : List DealD) : PartyD := pty1 w l (finD (!w) l ++ finD w l)
theorem sync_third {l : List DealD} (hl : l.length ≤ 10) : syncS (pty1 false l (dsp true 0 0 l ++ dsp false l.length 0 l)) (pty1 true l (dsp false 0 0 l ++ dsp true l.length 0 l)) = (finP false l, finP true l, 0) := by
  have m1 := mg_last (w := false) hl
  have m2 := mg_last (w := true) hl
  rw [Bool.not_false] at m1
  rw [Bool.not_true] at m2
  have n1 := dsp_len true l.length l 0
  have n2 := dsp_len false l.length l 0
  have := sync_next hl (good_two true 0 l.length hl).about (good_two false 0 l.length hl).about (by rw [Bool.not_true, Bool.not_false, m1, List.length_append]; omega) (by rw [Bool.not_true, Bool.not_false, m2, List.length_append]; omega)
  rw [Bool.not_true, Bool.not_false] at this
  rw [this, m1, m2]
  rfl
theorem good_fin (w : Bool) {l : List DealD} (hl : l.length ≤ 10) : GoodD l (finD (!w) l ++ finD w l) := by
  have := good_two (!w) l.length l.length hl
  rw [Bool.not_not] at this
  exact this
theorem fin_valid (w : Bool) {l : List DealD} (hl : l.length ≤ 10) : validP (finP w l) = 0 := (good_fin w hl).valid hl w
theorem fin_agree (w : Bool) {l : List DealD} (hl : l.length ≤ 10) : agrS (finP w l) (finP (!w) l) = true := by
  have wa := wp (fin_valid w hl)
  have wb := wp (fin_valid (!w) hl)
  have hm : ∀ v (d : Disp), d ∈ finD (!v) l ++ finD v l ↔ d ∈ finD false l ∨ d ∈ finD true l := fun v d => by
    rw [List.mem_append]; cases v
    · exact ⟨Or.symm, Or.symm⟩
    · exact Iff.rfl
  rw [agr_law wa wb, Bool.and_eq_true, has_iff wa wb, has_iff wb wa]
  refine ⟨⟨fun c hc _ => both_mem.2 (both_mem.1 hc), fun d hd _ => (hm (!w) d).2 ((hm w d).1 hd)⟩, fun c hc _ => ?_, fun d hd _ => (hm w d).2 ((hm (!w) d).1 hd)⟩
  exact both_mem.2 (both_mem.1 hc)
def nv (d : DealD) : Int := if d.credited = true then 0 else d.net.val
def gg (d : DealD) : Int := if grd d = true then d.granted.val else 0
def wv (d : DealD) : Int := if d.back = true then -nv d else nv d
def gv (d : DealD) : Int := if d.back = true then -gg d else gg d
def wantS (l : List DealD) : Int := (l.map wv).sum
def grtS (l : List DealD) : Int := (l.map gv).sum
def sumV (u : Bool) (l : List DealD) : Int := (l.map fun d => if d.back = u then nv d - gg d else 0).sum
theorem nv_in (d : DealD) : 0 ≤ nv d ∧ nv d ≤ 65535 := by
  have := net_in d
  unfold nv; split <;> omega
theorem gg_in (d : DealD) : 0 ≤ gg d ∧ gg d ≤ nv d := by
  have := net_in d
  unfold gg nv
  split
  · rename_i h
    obtain ⟨h1, h2, h3⟩ := grd_iff h
    obtain ⟨h4, h5, h6⟩ := clm_iff h1
    rw [h4, if_neg (by decide)]
    omega
  · split <;> omega
theorem sums_eq : ∀ l : List DealD, sumV false l - sumV true l = wantS l - grtS l
  | [] => rfl
  | d :: l => by
    have ih := sums_eq l
    have e : (if d.back = false then nv d - gg d else 0) - (if d.back = true then nv d - gg d else 0) = wv d - gv d := by
      unfold wv gv
      cases d.back <;> simp <;> omega
    unfold sumV wantS grtS at ih ⊢
    simp only [List.map_cons, List.sum_cons]
    omega
theorem sumV_in (u : Bool) : ∀ l : List DealD, 0 ≤ sumV u l ∧ sumV u l ≤ 65535 * (l.length : Int)
  | [] => by simp [sumV]
  | d :: l => by
    have ih := sumV_in u l
    have h1 := nv_in d
    have h2 := gg_in d
    unfold sumV at ih ⊢
    simp only [List.map_cons, List.sum_cons, List.length_cons]
    split <;> omega
theorem sum_in (f : DealD → Int) (h : ∀ d, -65535 ≤ f d ∧ f d ≤ 65535) : ∀ l : List DealD, -65535 * (l.length : Int) ≤ (l.map f).sum ∧ (l.map f).sum ≤ 65535 * (l.length : Int)
  | [] => by simp
  | d :: l => by
    have ih := sum_in f h l
    have := h d
    simp only [List.map_cons, List.sum_cons, List.length_cons]
    omega
theorem wv_in (d : DealD) : -65535 ≤ wv d ∧ wv d ≤ 65535 := by
  have := nv_in d
  unfold wv; split <;> omega
theorem gv_in (d : DealD) : -65535 ≤ gv d ∧ gv d ≤ 65535 := by
  have := nv_in d
  have := gg_in d
  unfold gv; split <;> omega
theorem amt_rec {w : Bool} {l : List DealD} (hl : l.length ≤ 10) {j : Nat} {d : DealD} (h : l[j]? = some d) : amtO (finD (!w) l ++ finD w l) (recD j d) = d.net.val - gg d := by
  have hj := (List.getElem?_eq_some_iff.1 h).1
  obtain ⟨n0, n1⟩ := net_in d
  have hG := good_fin w hl
  have hin : ∀ x : Disp, x ∈ finD (!w) l ++ finD w l → x.cdr = cId j → clm d = true ∧ x = disD l.length j d := fun x hx hc => by
    have key : ∀ v, x ∈ dsp v l.length 0 l → clm d = true ∧ x = disD l.length j d := fun v hv => by
      obtain ⟨k, e, h1, h2, h3, h4⟩ := dsp_mem.1 hv
      have hk := (List.getElem?_eq_some_iff.1 h1).1
      rw [Nat.zero_add] at h4
      rw [h4, disD_cdr] at hc
      have := cId_inj (by omega) (by omega) hc
      subst this
      rw [h] at h1
      cases h1
      exact ⟨h3, h4⟩
    rcases List.mem_append.1 hx with hx | hx
    · exact key _ hx
    · exact key _ hx
  have hidr : (recD j d).id = cId j := rfl
  by_cases hg : grd d = true
  · have hdis : disD l.length j d = dfiD j d := by unfold disD; rw [if_pos ⟨hj, hg⟩]
    have hmem : dfiD j d ∈ grF (finD (!w) l ++ finD w l) := by
      rw [grF, List.mem_filter]
      refine ⟨?_, rfl⟩
      have : dfiD j d ∈ dsp d.back l.length 0 l := dsp_mem.2 ⟨j, d, h, rfl, (grd_iff hg).1, by rw [Nat.zero_add, hdis]⟩
      rw [List.mem_append]
      cases hb : d.back <;> rw [hb] at this <;> cases w
      · exact .inr this
      · exact .inl this
      · exact .inl this
      · exact .inr this
    have hnd : ((grF (finD (!w) l ++ finD w l)).map Disp.cdr).Nodup := (List.filter_sublist.map _).nodup hG.nd
    have hget : getI Disp.cdr (grF (finD (!w) l ++ finD w l)) (cId j) = some (dfiD j d) := get_mem (f := Disp.cdr) hnd hmem
    obtain ⟨h1, h2, h3⟩ := grd_iff hg
    obtain ⟨h4, h5, h6⟩ := clm_iff h1
    rw [amtO, hidr, hget]
    show amountS (cId j) d.net.val [dfiD j d] = _
    rw [amountS, if_pos ⟨rfl, rfl⟩, IntKind.wrap_i64]
    show (d.net.val - d.granted.val + 9223372036854775808) % 18446744073709551616 - 9223372036854775808 = _
    unfold gg
    rw [if_pos hg]
    omega
  · have hget : getI Disp.cdr (grF (finD (!w) l ++ finD w l)) (cId j) = none := get_not fun x hx hc => by
      rw [grF, List.mem_filter, decide_eq_true_eq] at hx
      have := (hin x hx.1 hc).2
      rw [this] at hx
      have h4 := hx.2
      unfold disD at h4
      rw [if_neg (fun h => hg h.2)] at h4
      exact absurd h4 (by show ¬ (1 : Int) = 4; decide)
    rw [amtO, hidr, hget]
    unfold gg
    rw [if_neg hg]
    show d.net.val = d.net.val - 0
    omega
theorem amt_cre {w : Bool} {l : List DealD} {j : Nat} {d : DealD} : amtO (finD (!w) l ++ finD w l) (creD j d) = -d.net.val := by
  have hget : getI Disp.cdr (grF (finD (!w) l ++ finD w l)) (kId j) = none := get_not fun x hx hc => by
    rw [grF, List.mem_filter, List.mem_append] at hx
    have key : ∀ v, x ∈ dsp v l.length 0 l → False := fun v hv => by
      obtain ⟨k, e, _, _, _, h4⟩ := dsp_mem.1 hv
      rw [h4, disD_cdr] at hc
      exact ck_ne _ _ hc
    rcases hx.1 with h | h
    · exact key _ h
    · exact key _ h
  rw [amtO]
  show (match getI Disp.cdr (grF (finD (!w) l ++ finD w l)) (kId j) with | some e => _ | none => -d.net.val) = _
  rw [hget]
theorem amt_sum {ds : List Disp} (u : Bool) : ∀ (m : List DealD) (i : Nat), (∀ j d, m[j]? = some d → amtO ds (recD (i + j) d) = d.net.val - gg d ∧ amtO ds (creD (i + j) d) = -d.net.val) → ((rcs u i m).map (amtO ds)).sum = sumV u m
  | [], i, _ => rfl
  | x :: m, i, h => by
    have ih := amt_sum (ds := ds) u m (i + 1) fun j d hj => by
      have := h (j + 1) d (by rw [List.getElem?_cons_succ]; exact hj)
      rw [show i + (j + 1) = i + 1 + j by omega] at this
      exact this
    obtain ⟨h1, h2⟩ := h 0 x rfl
    rw [Nat.add_zero] at h1 h2
    rw [rcs, List.map_append, List.sum_append, ih]
    unfold sumV
    rw [List.map_cons, List.sum_cons]
    congr 1
    split
    · unfold billD nv
      cases hc : x.credited with
      | true =>
        have hgg : gg x = 0 := by
          have := gg_in x
          unfold nv at this
          rw [if_pos hc] at this
          omega
        simp [h1, h2, hgg]; omega
      | false => simp [h1]
    · rfl
theorem sel_rcs {w u : Bool} {l : List DealD} (hl : l.length ≤ 10) : (rcs w 0 l ++ rcs (!w) 0 l).filter (selO (name u) (name (!u)) ⟨#[69, 85, 82]⟩ ⟨0, 268435456⟩) = rcs u 0 l := by
  have yes : ∀ c ∈ rcs u 0 l, selO (name u) (name (!u)) ⟨#[69, 85, 82]⟩ ⟨0, 268435456⟩ c = true := fun c hc => by
    obtain ⟨j, d, h1, h2, h3⟩ := rcs_mem.1 hc
    have hj := (List.getElem?_eq_some_iff.1 h1).1
    subst h2
    have hpr : prD d = name (!d.back) := by unfold prD name; cases d.back <;> rfl
    have key : (!(!decide (opD d = name d.back) || !decide (prD d = name (!d.back)) || !decide ((⟨#[69, 85, 82]⟩ : ByteArray) = ⟨#[69, 85, 82]⟩) || decide ((((0 + j : Nat) : Int) + 30) < 0) || decide ((((0 + j : Nat) : Int) + 30) ≥ 268435456))) = true := by
      rw [decide_eq_true (op_name d), decide_eq_true hpr, decide_eq_true (rfl : (⟨#[69, 85, 82]⟩ : ByteArray) = ⟨#[69, 85, 82]⟩), decide_eq_false (by omega), decide_eq_false (by omega)]
      simp
    rcases h3 with rfl | ⟨_, rfl⟩
    · exact key
    · exact key
  have no : ∀ c ∈ rcs (!u) 0 l, selO (name u) (name (!u)) ⟨#[69, 85, 82]⟩ ⟨0, 268435456⟩ c = false := fun c hc => by
    obtain ⟨_, ⟨h2, _⟩, _⟩ := rcs_ok hl hc
    have : ¬ c.operator = name u := by rw [h2]; cases u <;> simp [name, AB, eq_comm]
    rw [selO, decide_eq_false this]
    rfl
  have f1 := List.filter_eq_self.2 yes
  have f2 : (rcs (!u) 0 l).filter (selO (name u) (name (!u)) ⟨#[69, 85, 82]⟩ ⟨0, 268435456⟩) = [] := List.filter_eq_nil_iff.2 fun c hc => by rw [no c hc]; simp
  rw [List.filter_append]
  cases w <;> cases u <;> simp only [Bool.not_true, Bool.not_false] at f1 f2 ⊢ <;> rw [f1, f2] <;> simp
theorem owed_fin {w u : Bool} {l : List DealD} (hl : l.length ≤ 10) : owedO (finP w l).cdrs (finP w l).disputes (name u) (name (!u)) ⟨#[69, 85, 82]⟩ ⟨0, 268435456⟩ = (sumV u l, 0) := by
  have hs := sumV_in u l
  have he : (((rcs w 0 l ++ rcs (!w) 0 l).filter (selO (name u) (name (!u)) ⟨#[69, 85, 82]⟩ ⟨0, 268435456⟩)).map (amtO (finD (!w) l ++ finD w l))).sum = sumV u l := by
    rw [sel_rcs hl]
    refine amt_sum u l 0 fun j d h => ?_
    rw [Nat.zero_add]
    exact ⟨amt_rec hl h, amt_cre⟩
  rw [owedO]
  show sumZ (((rcs w 0 l ++ rcs (!w) 0 l).filter (selO (name u) (name (!u)) ⟨#[69, 85, 82]⟩ ⟨0, 268435456⟩)).map (amtO (finD (!w) l ++ finD w l))) = _
  unfold sumZ
  rw [he, if_pos (by omega)]
theorem fin_oko (w u : Bool) {l : List DealD} (hl : l.length ≤ 10) : OkO (finP w l).cdrs (finP w l).disputes (name u) (name (!u)) ⟨#[69, 85, 82]⟩ ⟨0, 268435456⟩ ∧ okAm (finP w l).cdrs (finP w l).disputes := by
  have hG := good_fin w hl
  have hlen := hG.len
  have n1 := rcs_len w l 0
  have n2 := rcs_len (!w) l 0
  constructor
  · refine ⟨by show (rcs w 0 l ++ rcs (!w) 0 l).length ≤ _; rw [List.length_append]; omega, by show (finD (!w) l ++ finD w l).length ≤ _; omega, fun c hc => ?_, fun d hd => (hG.ok d hd).1, name_ok u, name_ok (!u), name_ne u, cur_E, by decide, by decide, by decide, hG.nd⟩
    obtain ⟨v, hv⟩ := both_mem.1 hc
    have := (rcs_small hl hv).1
    exact ⟨(rcs_ok hl hv).1, by omega⟩
  · intro c hc
    obtain ⟨v, hv⟩ := both_mem.1 hc
    obtain ⟨j, d, h1, h2, h3⟩ := rcs_mem.1 hv
    rw [Nat.zero_add] at h3
    have := net_in d
    have := gg_in d
    have := nv_in d
    show inI (amtO (finD (!w) l ++ finD w l) c)
    rcases h3 with rfl | ⟨_, rfl⟩
    · rw [amt_rec hl h1]; unfold inI; omega
    · rw [amt_cre]; unfold inI; omega
end Go.Proofs.Ytalhbhbkdfmhgaa
