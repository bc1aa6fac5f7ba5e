/- The events of a transaction of RecordsMeet: plain. -/
import Derived.Test.YteocedfakgdckaaDoorDel19p
import Derived.Test.YteocedfakgdckaaDoorTxn34
namespace Go.Proofs.YteocedfakgdckaaDoor
set_option linter.all false
open Go.Idl
set_option maxHeartbeats 4000000
set_option maxRecDepth 100000
def tA : ByteArray := ⟨#[65]⟩
def pE (off : Bool) (i : Nat) (r : Rdg) : EvD := if i = 0 then ⟨tS, tT, 1, 0, 1, r.time, tA, off, 0, [r]⟩ else ⟨tS, tT, 1, i, 2, r.time, ⟨#[]⟩, off, 0, [r]⟩
def lE (n : Nat) (r : Rdg) (reason : Int) : EvD := ⟨tS, tT, 1, n, 3, r.time, ⟨#[]⟩, false, reason, [r]⟩
def preE (off : Bool) (R : List Rdg) : List EvD := R.mapIdx (pE off)
def allE (off : Bool) (reason : Int) (R : List Rdg) (r : Rdg) : List EvD := preE off R ++ [lE R.length r reason]
def rOk19 (r : Rdg) : Prop := 5 ≤ r.time ∧ r.time ≤ 100000 ∧ 0 ≤ r.reg ∧ r.reg < 100000
structure RunOk (R : List Rdg) (r : Rdg) (reason : Int) : Prop where
  ne : R ≠ []
  len : R.length ≤ 21
  ok : ∀ x, x ∈ R → rOk19 x
  asc : R.Pairwise fun a b => a.time < b.time
  rok : rOk19 r
  lt : ∀ x, x ∈ R → x.time < r.time
  re : 1 ≤ reason ∧ reason ≤ 6
theorem nS : okName tS = true := by kernel_rfl
theorem nT : okName tT = true := by kernel_rfl
theorem nA : okName tA = true := by kernel_rfl
theorem rdg_of {r : Rdg} (h : rOk19 r) : rdgOk r = true := by
  obtain ⟨h1, h2, h3, h4⟩ := h
  exact rdg_iff.2 ⟨⟨by omega, by omega⟩, by omega, by omega⟩
theorem pre_get (off : Bool) (R : List Rdg) (i : Nat) : (preE off R)[i]? = (R[i]?).map (pE off i) := by simp [preE]
theorem pre_len (off : Bool) (R : List Rdg) : (preE off R).length = R.length := by simp [preE]
theorem pre_mem {off : Bool} {R : List Rdg} {e : EvD} (h : e ∈ preE off R) : ∃ i r, R[i]? = some r ∧ e = pE off i r := by
  obtain ⟨i, hi⟩ := List.getElem?_of_mem h
  rw [pre_get, Option.map_eq_some_iff] at hi
  obtain ⟨r, h1, h2⟩ := hi
  exact ⟨i, r, h1, h2.symm⟩
theorem pre_app (off : Bool) (R : List Rdg) (r : Rdg) : preE off (R ++ [r]) = preE off R ++ [pE off R.length r] := by simp [preE, List.mapIdx_append]
theorem pE_rds (off : Bool) (i : Nat) (r : Rdg) : (pE off i r).rds = [r] := by unfold pE; split <;> rfl
theorem pE_time (off : Bool) (i : Nat) (r : Rdg) : (pE off i r).time = r.time := by unfold pE; split <;> rfl
theorem pE_seq (off : Bool) (i : Nat) (r : Rdg) : (pE off i r).seq = (i : Int) := by
  unfold pE
  split
  · rename_i h; rw [h]; rfl
  · rfl
theorem pE_conn (off : Bool) (i : Nat) (r : Rdg) : (pE off i r).conn = 1 := by unfold pE; split <;> rfl
theorem pE_key (off : Bool) (i : Nat) (r : Rdg) : (pE off i r).station = tS ∧ (pE off i r).txn = tT := by unfold pE; split <;> exact ⟨rfl, rfl⟩
theorem pE_kind (off : Bool) (i : Nat) (r : Rdg) : (pE off i r).kind ≠ 3 := by unfold pE; split <;> simp
theorem pE_reason (off : Bool) (i : Nat) (r : Rdg) : (pE off i r).reason = 0 := by unfold pE; split <;> rfl
theorem pE_ev (off : Bool) {i : Nat} {r : Rdg} (hi : i ≤ 100) (h : rOk19 r) : evS (pE off i r) = 0 := by
  obtain ⟨k1, k2⟩ := pE_key off i r
  refine ev_ok (by rw [k1]; exact nS) (by rw [k2]; exact nT) (by rw [pE_conn]; omega) (by rw [pE_seq]; omega) (pE_rds off i r) (pE_time off i r) (rdg_of h) ?_
  unfold pE
  split
  · simp [kindS, nA]
  · rename_i h0
    have h1 : ((i : Int) == 0) = false := beq_false_of_ne (by omega)
    simp [kindS, h1]
theorem lE_ev {n : Nat} {r : Rdg} {reason : Int} (hn : 1 ≤ n ∧ n ≤ 100) (h : rOk19 r) (hr : 1 ≤ reason ∧ reason ≤ 6) : evS (lE n r reason) = 0 := by
  refine ev_ok nS nT (by show (1 : Int) ≤ 1 ∧ (1 : Int) ≤ 32; omega) (by show (0 : Int) ≤ (n : Int) ∧ (n : Int) ≤ 2147483647; omega) rfl rfl (rdg_of h) ?_
  have h1 : ((n : Int) == 0) = false := beq_false_of_ne (by omega)
  have h2 : decide (reason < 1) = false := by simp; omega
  have h3 : decide (reason > 6) = false := by simp; omega
  have h4 : kindS (lE n r reason) = bif decide (reason < 1) || decide (reason > 6) then 1 else bif ((3 : Int) == 2 && reason != 0 || ((n : Int) == 0) || !decide ((⟨#[]⟩ : ByteArray) = ⟨#[]⟩)) then 1 else 0 := rfl
  rw [h4, h2, h3, h1]
  simp
theorem okN_of {n : Int} (h : 0 ≤ n ∧ n ≤ 1000000) : okN n := ⟨by omega, by omega⟩
theorem ok1 : okN 1 := okN_of (by decide)
theorem ok2 : okN 2 := okN_of (by decide)
theorem ok3 : okN 3 := okN_of (by decide)
theorem rs_of {e : EvD} {r : Rdg} (h : e.rds = [r]) (hr : rOk19 r) : OkRs e.rds := by
  rw [h]
  obtain ⟨h1, h2, h3, h4⟩ := hr
  refine ⟨by simp, by simp, fun x hx => ?_⟩
  rw [List.mem_singleton.1 hx]
  exact ⟨okN_of ⟨by omega, by omega⟩, okN_of ⟨by omega, by omega⟩⟩
theorem sS : tS ≠ ⟨#[]⟩ ∧ tS.size ≤ 36 := ⟨fun h => by have := congrArg ByteArray.size h; exact absurd this (by decide), by decide⟩
theorem sT : tT ≠ ⟨#[]⟩ ∧ tT.size ≤ 36 := ⟨fun h => by have := congrArg ByteArray.size h; exact absurd this (by decide), by decide⟩
theorem sA : tA.size ≤ 36 := by decide
theorem pE_enc (off : Bool) {i : Nat} {r : Rdg} (hi : i ≤ 100) (h : rOk19 r) : EncOk (pE off i r) := by
  obtain ⟨k1, k2⟩ := pE_key off i r
  have hh := h
  obtain ⟨h1, h2, h3, h4⟩ := hh
  refine ⟨pE_ev off hi h, by rw [k1]; exact sS, by rw [k2]; exact sT, ?_, by rw [pE_conn]; exact okN_of (by omega), by rw [pE_seq]; exact okN_of (by omega), ?_, by rw [pE_time]; exact okN_of (by omega), by rw [pE_reason]; exact okN_of (by omega), rs_of (pE_rds off i r) h⟩
  · unfold pE; split
    · exact sA
    · exact Nat.zero_le _
  · unfold pE; split
    · exact ok1
    · exact ok2
theorem lE_enc {n : Nat} {r : Rdg} {reason : Int} (hn : 1 ≤ n ∧ n ≤ 100) (h : rOk19 r) (hr : 1 ≤ reason ∧ reason ≤ 6) : EncOk (lE n r reason) := by
  have hh := h
  obtain ⟨h1, h2, h3, h4⟩ := hh
  exact ⟨lE_ev hn h hr, sS, sT, Nat.zero_le _, ok1, okN_of (by show (0 : Int) ≤ (n : Int) ∧ (n : Int) ≤ 1000000; omega), ok3, okN_of ⟨by show (0 : Int) ≤ r.time; omega, by show r.time ≤ 1000000; omega⟩, okN_of ⟨by show 0 ≤ reason; omega, by show reason ≤ 1000000; omega⟩, rs_of rfl h⟩
theorem lt_good {a b : EvD} (ha : a.station = tS ∧ a.txn = tT) (hb : b.station = tS ∧ b.txn = tT) (hs : a.seq < b.seq) (hk : a.kind ≠ 3) (ht : a.time ≤ b.time) : good2 a b := by
  refine ⟨(bef_iff a b).2 (.inr ⟨cmpT_eq.2 ⟨?_, ?_⟩, hs⟩), fun _ => (contra_lt hs).2 ⟨hk, ht⟩⟩
  · exact ha.1.trans hb.1.symm
  · exact ha.2.trans hb.2.symm
theorem encFl_sz : ∀ (l : List FldD), (∀ f, f ∈ l → okN f.tag ∧ f.data.length ≤ 1000000) → (encFl l).length ≤ 16 * l.length + (l.map fun f => f.data.length).sum
  | [], _ => by simp [encFl]
  | f :: l, h => by
    have h1 := encFl_sz l fun g hg => h g (List.mem_cons_of_mem _ hg)
    obtain ⟨h2, h3⟩ := h f (by simp)
    have h4 := encI_len h2
    have h5 := encI_len (n := (f.data.length : Int)) ⟨by omega, by omega⟩
    rw [encFl, encB]
    simp only [List.length_append, List.length_cons, List.map_cons, List.sum_cons]
    omega
theorem encE_len {e : EvD} (h : EncOk e) : (encE e).length ≤ 7000 := by
  have hf := flds_fp h
  have := encFl_len _ fun f hm => by have := hf.el f hm; exact ⟨⟨by omega, by omega⟩, this.2.2.2⟩
  have h2 := hf.ln
  rw [encE]
  omega
theorem encLs_evs : ∀ {l : List EvD}, (∀ e, e ∈ l → EncOk e) → (encLs (l.map encE)).length ≤ 7008 * l.length
  | [], _ => by simp [encLs]
  | e :: l, h => by
    have h1 := encLs_evs fun x hx => h x (List.mem_cons_of_mem _ hx)
    have h2 := encE_len (h e (by simp))
    have h3 := encI_len (n := ((encE e).length : Int)) ⟨by omega, by omega⟩
    rw [List.map_cons, encLs, encB]
    simp only [List.length_append, List.length_cons]
    omega
theorem sav_of {E : List EvD} (h : ∀ e, e ∈ E → EncOk e) (hl : E.length ≤ 60) : SavOk ⟨64, E, 0⟩ := by
  refine ⟨by show (4 : Int) ≤ 64 ∧ (64 : Int) ≤ 256; omega, rfl, by show (E.length : Int) ≤ 64; omega, h, ?_⟩
  have h1 := encLs_evs h
  have h2 := encI_len (n := ((E.map encE).length : Int)) ⟨by omega, by rw [List.length_map]; omega⟩
  have h3 : (encL (E.map encE)).length ≤ 430000 := by rw [encL, List.length_append]; omega
  have h4 := encI_len (n := 64) (okN_of (by decide))
  have h5 := encI_len (n := 0) (okN_of (by decide))
  have h6 := encFl_sz (fldsO ⟨64, E, 0⟩) fun f hf => by
    simp only [fldsO, List.mem_cons, List.not_mem_nil, or_false] at hf
    rcases hf with rfl | rfl | rfl
    · exact ⟨ok1, by dsimp only; omega⟩
    · exact ⟨ok2, by dsimp only; omega⟩
    · exact ⟨ok3, by dsimp only; omega⟩
  rw [encO]
  simp only [fldsO, List.map_cons, List.map_nil, List.sum_cons, List.sum_nil, List.length_cons, List.length_nil] at h6 ⊢
  omega
section
variable {off : Bool} {reason : Int} {R : List Rdg} {r : Rdg}
theorem all_mem (h : RunOk R r reason) {e : EvD} (he : e ∈ allE off reason R r) : (∃ i x, R[i]? = some x ∧ e = pE off i x) ∨ e = lE R.length r reason := by
  rcases List.mem_append.1 he with he | he
  · exact .inl (pre_mem he)
  · exact .inr (List.mem_singleton.1 he)
theorem run_len (h : RunOk R r reason) : 1 ≤ R.length := by
  have := List.length_pos_iff.2 h.ne
  omega
theorem all_enc (h : RunOk R r reason) : ∀ e, e ∈ allE off reason R r → EncOk e := fun e he => by
  have h1 := run_len h
  have h2 := h.len
  rcases all_mem h he with ⟨i, x, hi, rfl⟩ | rfl
  · have := (List.getElem?_eq_some_iff.1 hi).1
    exact pE_enc off (by omega) (h.ok x (List.mem_of_getElem? hi))
  · exact lE_enc ⟨by omega, by omega⟩ h.rok h.re
theorem all_ord (h : RunOk R r reason) : (allE off reason R r).Pairwise good2 := by
  rw [allE, List.pairwise_append]
  refine ⟨?_, by simp, fun a ha b hb => ?_⟩
  · rw [List.pairwise_iff_getElem]
    intro i j hi hj hij
    have hi' : i < R.length := by rw [pre_len] at hi; exact hi
    have hj' : j < R.length := by rw [pre_len] at hj; exact hj
    have ea : (preE off R)[i] = pE off i R[i] := by simp [preE]
    have eb : (preE off R)[j] = pE off j R[j] := by simp [preE]
    rw [ea, eb]
    refine lt_good (pE_key _ _ _) (pE_key _ _ _) (by rw [pE_seq, pE_seq]; omega) (pE_kind _ _ _) ?_
    rw [pE_time, pE_time]
    have := List.pairwise_iff_getElem.1 h.asc i j hi' hj' hij
    omega
  · obtain ⟨i, x, hi, rfl⟩ := pre_mem ha
    obtain rfl := List.mem_singleton.1 hb
    have hlt := (List.getElem?_eq_some_iff.1 hi).1
    refine lt_good (pE_key _ _ _) ⟨rfl, rfl⟩ (by rw [pE_seq]; show (i : Int) < (R.length : Int); omega) (pE_kind _ _ _) ?_
    rw [pE_time]
    have := h.lt x (List.mem_of_getElem? hi)
    show x.time ≤ r.time
    omega
theorem all_len : (allE off reason R r).length = R.length + 1 := by rw [allE, List.length_append, pre_len]; rfl
theorem all_evs (h : RunOk R r reason) : Evs (allE off reason R r) := by
  have h1 := run_len h
  have h2 := h.len
  refine ⟨all_ord h, by rw [all_len]; omega, by rw [all_len]; omega, fun e he => ?_, fun i e he => ?_, ?_, sav_of (all_enc h) (by rw [all_len]; omega)⟩
  · rcases all_mem h he with ⟨i, x, hi, rfl⟩ | rfl
    · exact pE_key _ _ _
    · exact ⟨rfl, rfl⟩
  · rw [allE] at he
    by_cases hi : i < R.length
    · rw [List.getElem?_append_left (by rw [pre_len]; exact hi), pre_get, Option.map_eq_some_iff] at he
      obtain ⟨x, hx, rfl⟩ := he
      exact pE_seq _ _ _
    · rw [List.getElem?_append_right (by rw [pre_len]; omega), pre_len] at he
      have hz : i - R.length = 0 := by
        have := (List.getElem?_eq_some_iff.1 he).1
        simp at this
        omega
      rw [hz] at he
      simp at he
      subst he
      show (R.length : Int) = (i : Int)
      omega
  · rw [allE, endE_app]
    simp [lE]
theorem all_compl (h : RunOk R r reason) : complS (allE off reason R r) = true := by
  have h1 := run_len h
  unfold complS has0 hasE
  rw [Bool.and_eq_true]
  constructor
  · rw [List.any_eq_true]
    cases R with
    | nil => simp at h1
    | cons x R =>
      refine ⟨pE off 0 x, ?_, by simp [pE]⟩
      rw [allE, preE, List.mapIdx_cons]
      simp
  · rw [List.any_eq_true]
    refine ⟨lE R.length r reason, by simp [allE], ?_⟩
    have h2 : ((R.length : Int) == 0) = false := beq_false_of_ne (by omega)
    have h3 : (!((lE R.length r reason).seq == 0) && (lE R.length r reason).kind == 3) = (!((R.length : Int) == 0) && (3 : Int) == 3) := rfl
    rw [h3, h2]; rfl
theorem badM_app : ∀ (P : List EvD) (z : EvD) (c : Int), (∀ e, e ∈ P → e.kind ≠ 3 ∧ e.conn = c) → z.conn = c → badM c (P ++ [z]) = false
  | [], z, c, _, hz => by
    simp [badM, hz]
  | e :: P, z, c, h, hz => by
    obtain ⟨h1, h2⟩ := h e (by simp)
    have ih := badM_app P z c (fun x hx => h x (List.mem_cons_of_mem _ hx)) hz
    rw [List.cons_append, badM, ih, h2, beq_false_of_ne h1]
    simp
theorem mrgL_app : ∀ (a : List Rdg) (q : Rdg), (∀ x, x ∈ a → x.time < q.time) → mrgL a [q] = some (a ++ [q])
  | [], q, _ => by rw [mrgL]; rfl
  | x :: a, q, h => by
    have h1 : decide (x.time < q.time) = true := decide_eq_true (h x (by simp))
    have ih := mrgL_app a q fun y hy => h y (List.mem_cons_of_mem _ hy)
    rw [mrgL, h1, cond_true, ih]
    rfl
theorem asc_of : ∀ {a : List Rdg}, (a.Pairwise fun x y => x.time < y.time) → asc a = true
  | [], _ => rfl
  | [x], _ => rfl
  | x :: y :: a, h => by
    obtain ⟨h1, h2⟩ := List.pairwise_cons.1 h
    rw [asc, asc_of h2, decide_eq_true (h1 y (by simp))]
    rfl
theorem mrgS_app {a : List Rdg} {q : Rdg} (ha : a.Pairwise fun x y => x.time < y.time) (h : ∀ x, x ∈ a → x.time < q.time) (hl : a.length ≤ 1000) : mrgS a [q] = (a ++ [q], 0) := by
  unfold mrgS
  rw [asc_of ha, mrgL_app a q h]
  have h1 : asc [q] = true := rfl
  have h2 : decide ((a ++ [q]).length > 1024) = false := by simp; omega
  rw [h1]
  dsimp only
  rw [h2]
  rfl
theorem mrgE_app : ∀ (E : List EvD) (Q acc : List Rdg), E.map (·.rds) = Q.map (fun q => [q]) → (acc ++ Q).Pairwise (fun x y => x.time < y.time) → (acc ++ Q).length ≤ 1000 → mrgE acc E = (acc ++ Q, 0)
  | [], [], acc, _, _, _ => by rw [mrgE, List.append_nil]
  | [], q :: Q, acc, h, _, _ => by cases h
  | e :: E, [], acc, h, _, _ => by cases h
  | e :: E, q :: Q, acc, h, hp, hl => by
    rw [List.map_cons, List.map_cons, List.cons.injEq] at h
    obtain ⟨h1, h2⟩ := h
    obtain ⟨p1, p2, p3⟩ := List.pairwise_append.1 hp
    have hl' : acc.length ≤ 1000 := by rw [List.length_append] at hl; omega
    have hs := mrgS_app (q := q) p1 (fun x hx => p3 x hx q (by simp)) hl'
    have e1 : acc ++ q :: Q = (acc ++ [q]) ++ Q := by simp
    rw [mrgE, h1, hs]
    simp only [bne_self_eq_false, cond_false]
    rw [mrgE_app E Q (acc ++ [q]) h2 (by rw [← e1]; exact hp) (by rw [← e1]; exact hl), e1]
theorem pre_rds (off : Bool) (R : List Rdg) : (preE off R).map (·.rds) = R.map fun q => [q] := by
  apply List.ext_getElem?
  intro i
  rw [List.getElem?_map, pre_get, List.getElem?_map]
  cases R[i]? with
  | none => rfl
  | some x => simp [pE_rds]
theorem run_asc (h : RunOk R r reason) : (R ++ [r]).Pairwise fun x y => x.time < y.time := by
  rw [List.pairwise_append]
  exact ⟨h.asc, by simp, fun a ha b hb => by rw [List.mem_singleton.1 hb]; exact h.lt a ha⟩
theorem all_mrg (h : RunOk R r reason) : mrgE [] (allE off reason R r) = (R ++ [r], 0) := by
  have := mrgE_app (allE off reason R r) (R ++ [r]) [] (by rw [allE, List.map_append, pre_rds, List.map_append]; rfl) (by rw [List.nil_append]; exact run_asc h) (by have := h.len; simp; omega)
  rw [this, List.nil_append]
theorem vrL_of {m : Int} : ∀ (l : List Rdg) (p : Option Rdg), (∀ x, x ∈ l → rOk m x = true) → l.Pairwise (fun x y => x.time < y.time) → (∀ q, p = some q → ∀ x, x ∈ l → q.time < x.time) → vrL m p l = 0
  | [], p, _, _, _ => rfl
  | x :: l, p, h1, h2, h3 => by
    obtain ⟨a1, a2⟩ := List.pairwise_cons.1 h2
    have hu : uNoMore p x = false := by
      cases p with
      | none => rfl
      | some q =>
        have := h3 q rfl x (by simp)
        show decide (x.time ≤ q.time) = false
        rw [decide_eq_false_iff_not]; omega
    rw [vrL, h1 x (by simp), hu]
    simp only [Bool.not_true, cond_false]
    exact vrL_of l (some x) (fun y hy => h1 y (List.mem_cons_of_mem _ hy)) a2 fun q hq y hy => by
      cases hq
      exact a1 y hy
theorem totL_le {m : Int} (hm : 0 < m) : ∀ (l : List Rdg), totL m l ≤ m * l.length
  | [] => by simp [totL]
  | [x] => by simp [totL]; omega
  | x :: y :: l => by
    have h1 := totL_le hm (y :: l)
    have h2 : bt m x y < m := Int.emod_lt_of_pos _ hm
    have e1 : ((x :: y :: l).length : Int) = ((y :: l).length : Int) + 1 := by simp
    rw [totL, e1, Int.mul_add, Int.mul_one]
    omega
theorem all_tot (h : RunOk R r reason) : (totS (R ++ [r]) 100000).2 = 0 ∧ (totS (R ++ [r]) 100000).1 ≤ 1099511627776 := by
  have hv : valS (R ++ [r]) 100000 = 0 := by
    have h1 : vrL 100000 none (R ++ [r]) = 0 := by
      refine vrL_of _ _ (fun x hx => ?_) (run_asc h) (fun q hq => by cases hq)
      have hx2 : rOk19 x := by
        rcases List.mem_append.1 hx with hx | hx
        · exact h.ok x hx
        · rw [List.mem_singleton.1 hx]; exact h.rok
      obtain ⟨a1, a2, a3, a4⟩ := hx2
      unfold rOk
      rw [decide_eq_true (show 0 ≤ x.time by omega), decide_eq_true (show x.time ≤ 268435456 by omega), decide_eq_true a3, decide_eq_true a4]
      rfl
    have h2 : decide ((R ++ [r]).length = 0) = false := by simp
    have h3 : decide ((R ++ [r]).length > 1024) = false := by have := h.len; simp; omega
    unfold valS
    rw [h1, h2, h3]
    rfl
  have ht := totL_le (m := 100000) (by decide) (R ++ [r])
  have hl := h.len
  unfold totS
  rw [hv]
  simp only [bne_self_eq_false, cond_false]
  refine ⟨trivial, ?_⟩
  rw [List.length_append, List.length_singleton] at ht
  omega
theorem all_make (h : RunOk R r reason) : (makeS (allE off reason R r) 100000).2 = 0 := by
  have h1 := run_len h
  have hc := all_compl (off := off) h
  have hm := all_mrg (off := off) h
  obtain ⟨t1, t2⟩ := all_tot h
  obtain ⟨x, R', hR⟩ : ∃ x R', R = x :: R' := by
    cases R with
    | nil => simp at h1
    | cons x R' => exact ⟨x, R', rfl⟩
  have hhd : hdE (allE off reason R r) = pE off 0 x := by
    subst hR
    rw [hdE, allE, preE, List.mapIdx_cons]
    rfl
  have hlt : ltE (allE off reason R r) = lE R.length r reason := by
    rw [ltE, allE, List.getLast?_append]
    rfl
  have hb : badM (hdE (allE off reason R r)).conn (allE off reason R r) = false := by
    rw [hhd, pE_conn, allE]
    refine badM_app _ _ _ (fun e he => ?_) rfl
    obtain ⟨i, y, _, rfl⟩ := pre_mem he
    exact ⟨pE_kind _ _ _, pE_conn _ _ _⟩
  have hro : rdOff (hdE (allE off reason R r)) (ltE (allE off reason R r)) (R ++ [r]) = false := by
    rw [hhd, hlt]
    have g1 : decide ((R ++ [r]).length = 0) = false := by simp
    have g2 : ((R ++ [r]).head?.map (·.time)).getD 0 = (pE off 0 x).time := by rw [hR, pE_time]; rfl
    have g3 : lastT (R ++ [r]) = (lE R.length r reason).time := by rw [lastT, List.getLast?_append]; rfl
    unfold rdOff
    rw [g1, g2, g3, bne_self_eq_false, bne_self_eq_false]
    rfl
  have ht : decide ((totS (R ++ [r]) 100000).1 > 1099511627776) = false := by simp; omega
  unfold makeS
  unfold makeE
  rw [hc, hb, hm]
  simp only [bne_self_eq_false, cond_false, Bool.not_true]
  rw [hro, t1]
  simp only [bne_self_eq_false, cond_false]
  rw [ht]
  rfl
end
end Go.Proofs.YteocedfakgdckaaDoor
namespace Go.Proofs.YteocedfakgdckaaDoor
set_option linter.all false
open Go.Idl
set_option maxHeartbeats 4000000
set_option maxRecDepth 100000
def tk19 (k : Nat) (r : Rdg) : TxnD := ⟨tT, 1, tA, ⟨#[]⟩, 5, k, false, r⟩
def card19 : TokD := ⟨tA, ⟨#[]⟩, ⟨#[]⟩, 1, 1, -1⟩
def nx19 (r : Rdg) (m : Int) : Rdg := ⟨r.time + (m + 1), (r.reg + 7 * m).tmod 100000⟩
structure Run (Q : List Rdg) (r : Rdg) : Prop where
  ne : Q ≠ []
  ok : ∀ x, x ∈ Q → rOk19 x
  asc : Q.Pairwise fun a b => a.time < b.time
  le : ∀ x, x ∈ Q → x.time ≤ r.time
  rok : rOk19 r
  tm : r.time ≤ 256 * Q.length
theorem beg19 (off : Bool) : begS tS 1 1 card19 ⟨5, 100⟩ off = (tk19 0 ⟨5, 100⟩, pE off 0 ⟨5, 100⟩, 0) := by
  have h : begS tS 1 1 card19 ⟨5, 100⟩ off = (tk19 0 ⟨5, 100⟩, pE off 0 ⟨5, 100⟩, 0) := by
    cases off <;> kernel_rfl
  exact h
theorem txn19 {k : Nat} {r : Rdg} (hk : k ≤ 1000) (h : rOk19 r) : txnS (tk19 k r) = 0 := by
  obtain ⟨h1, h2, h3, h4⟩ := h
  have e1 : (!okName (tk19 k r).id || !okName (tk19 k r).token || (!decide ((tk19 k r).group = ⟨#[]⟩) && !okName (tk19 k r).group)) = false := by
    have : (!okName tT || !okName tA || (!decide ((⟨#[]⟩ : ByteArray) = ⟨#[]⟩) && !okName ⟨#[]⟩)) = false := by rw [nT, nA]; simp
    exact this
  have e2 : (decide ((tk19 k r).conn < 1) || decide ((tk19 k r).conn > 32) || decide ((tk19 k r).start < 0) || decide ((tk19 k r).start > 268435456) || decide ((tk19 k r).seq < 0) || decide ((tk19 k r).seq > 2147483647) || !rdgOk (tk19 k r).last || decide ((tk19 k r).last.time < (tk19 k r).start)) = false := by
    have g : rdgOk r = true := rdg_of ⟨h1, h2, h3, h4⟩
    have e : (decide ((1 : Int) < 1) || decide ((1 : Int) > 32) || decide ((5 : Int) < 0) || decide ((5 : Int) > 268435456) || decide ((k : Int) < 0) || decide ((k : Int) > 2147483647) || !rdgOk r || decide (r.time < 5)) = false := by
      rw [g, decide_eq_false (show ¬ (k : Int) < 0 by omega), decide_eq_false (show ¬ (k : Int) > 2147483647 by omega), decide_eq_false (show ¬ r.time < 5 by omega)]
      rfl
    exact e
  unfold txnS
  rw [e1, e2]
  rfl
theorem cons19 {k : Nat} {q r : Rdg} (hk : k ≤ 1000) (hq : rOk19 q) (h : rOk19 r) : conS (tk19 k q) tS r = 0 := by
  have e1 := txn19 hk hq
  have e2 : ((tk19 k q).seq == 2147483647) = false := by
    have : ((k : Int) == 2147483647) = false := beq_false_of_ne (by omega)
    exact this
  unfold conS
  rw [e1, nS, e2, rdg_of h]
  rfl
theorem upd19 {k : Nat} {q r : Rdg} (off : Bool) (hk : k ≤ 1000) (hq : rOk19 q) (h : rOk19 r) (hl : q.time < r.time) : updS (tk19 k q) tS r off = (tk19 (k + 1) r, pE off (k + 1) r, 0) := by
  have e1 := cons19 hk hq h
  have e2 : decide (r.time ≤ (tk19 k q).last.time) = false := by
    have : decide (r.time ≤ q.time) = false := by simp; omega
    exact this
  unfold updS
  rw [e1, e2]
  simp only [bne_self_eq_false, cond_false]
  unfold pE tk19
  rw [if_neg (by omega)]
  rfl
theorem end19 {k : Nat} {q r : Rdg} {c : Int} (hk : k ≤ 1000) (hq : rOk19 q) (h : rOk19 r) (hl : q.time < r.time) (hc : 1 ≤ c ∧ c ≤ 6) : endS (tk19 k q) tS r c false = (zT, lE (k + 1) r c, 0) := by
  have e1 := cons19 hk hq h
  have e2 : decide (r.time ≤ (tk19 k q).last.time) = false := by
    have : decide (r.time ≤ q.time) = false := by simp; omega
    exact this
  have e3 : decide (c < 1) = false := by simp; omega
  have e4 : decide (c > 6) = false := by simp; omega
  unfold endS
  rw [e1, e2, e3, e4]
  rfl
theorem nx_ok {Q : List Rdg} {r : Rdg} {m : Int} (h : Run Q r) (hl : Q.length ≤ 20) (hm : 0 ≤ m ∧ m ≤ 255) : rOk19 (nx19 r m) ∧ r.time < (nx19 r m).time := by
  obtain ⟨h1, h2, h3, h4⟩ := h.rok
  have h5 := h.tm
  have g1 := Int.tmod_nonneg 100000 (show 0 ≤ r.reg + 7 * m by omega)
  have g2 := Int.tmod_lt_of_pos (r.reg + 7 * m) (show (0 : Int) < 100000 by decide)
  refine ⟨⟨?_, ?_, g1, g2⟩, ?_⟩
  · show 5 ≤ r.time + (m + 1); omega
  · show r.time + (m + 1) ≤ 100000; omega
  · show r.time < r.time + (m + 1); omega
theorem run_one : Run [⟨5, 100⟩] ⟨5, 100⟩ := by
  have h : rOk19 ⟨5, 100⟩ := ⟨by decide, by decide, by decide, by decide⟩
  refine ⟨by simp, fun x hx => ?_, by simp, fun x hx => ?_, h, by decide⟩
  · rw [List.mem_singleton.1 hx]; exact h
  · rw [List.mem_singleton.1 hx]; exact Int.le_refl _
theorem run_nx {Q : List Rdg} {r : Rdg} {m : Int} (h : Run Q r) (hl : Q.length ≤ 20) (hm : 0 ≤ m ∧ m ≤ 255) : Run (Q ++ [nx19 r m]) (nx19 r m) := by
  obtain ⟨g1, g2⟩ := nx_ok h hl hm
  refine ⟨by simp, fun x hx => ?_, ?_, fun x hx => ?_, g1, ?_⟩
  · rcases List.mem_append.1 hx with hx | hx
    · exact h.ok x hx
    · rw [List.mem_singleton.1 hx]; exact g1
  · rw [List.pairwise_append]
    refine ⟨h.asc, by simp, fun a ha b hb => ?_⟩
    rw [List.mem_singleton.1 hb]
    have := h.le a ha
    omega
  · rcases List.mem_append.1 hx with hx | hx
    · have := h.le x hx; omega
    · rw [List.mem_singleton.1 hx]; exact Int.le_refl _
  · have := h.tm
    rw [List.length_append, List.length_singleton]
    show r.time + (m + 1) ≤ _
    omega
def en19 (r : Rdg) : Rdg := ⟨r.time + 1, r.reg⟩
theorem run_end {Q : List Rdg} {r : Rdg} {c : Int} (h : Run Q r) (hl : Q.length ≤ 21) (hc : 1 ≤ c ∧ c ≤ 6) : RunOk Q (en19 r) c := by
  obtain ⟨h1, h2, h3, h4⟩ := h.rok
  have h5 := h.tm
  refine ⟨h.ne, hl, h.ok, h.asc, ⟨?_, ?_, h3, h4⟩, fun x hx => ?_, hc⟩
  · show 5 ≤ r.time + 1; omega
  · show r.time + 1 ≤ 100000; omega
  · have := h.le x hx
    show x.time < r.time + 1; omega
theorem end_of {Q : List Rdg} {r : Rdg} {k : Nat} {c : Int} (h : Run Q r) (hk : k + 1 = Q.length) (hl : Q.length ≤ 21) (hc : 1 ≤ c ∧ c ≤ 6) : endS (tk19 k r) tS (en19 r) c false = (zT, lE Q.length (en19 r) c, 0) := by
  have h1 := run_end (c := c) h hl hc
  have h2 := end19 (k := k) (q := r) (r := en19 r) (c := c) (by omega) h.rok h1.rok (by show r.time < r.time + 1; omega) hc
  rw [h2, hk]
theorem upd_of {Q : List Rdg} {r : Rdg} {k : Nat} {m : Int} (off : Bool) (h : Run Q r) (hk : k + 1 = Q.length) (hl : Q.length ≤ 20) (hm : 0 ≤ m ∧ m ≤ 255) : updS (tk19 k r) tS (nx19 r m) off = (tk19 Q.length (nx19 r m), pE off Q.length (nx19 r m), 0) := by
  obtain ⟨h1, h2⟩ := nx_ok h hl hm
  have h3 := upd19 (k := k) (q := r) (r := nx19 r m) off (by omega) h.rok h1 h2
  rw [h3, hk]
theorem beg_x (off : Bool) : begS ⟨#[83]⟩ 1 1 ⟨⟨#[65]⟩, ⟨#[]⟩, ⟨#[]⟩, 1, 1, -1⟩ ⟨5, 100⟩ off = (⟨tT, 1, tA, ⟨#[]⟩, 5, 0, false, ⟨5, 100⟩⟩, pE off 0 ⟨5, 100⟩, 0) := beg19 off
theorem upd_x {Q : List Rdg} {r : Rdg} {k : Nat} {m : Int} (off : Bool) (h : Run Q r) (hk : k + 1 = Q.length) (hl : Q.length ≤ 20) (hm : 0 ≤ m ∧ m ≤ 255) :
    updS ⟨tT, 1, tA, ⟨#[]⟩, 5, (k : Int), false, ⟨r.time, r.reg⟩⟩ ⟨#[83]⟩ ⟨r.time + (m + 1), (r.reg + 7 * m).tmod 100000⟩ off = (⟨tT, 1, tA, ⟨#[]⟩, 5, ((k + 1 : Nat) : Int), false, ⟨r.time + (m + 1), (r.reg + 7 * m).tmod 100000⟩⟩, pE off Q.length (nx19 r m), 0) := by
  have := upd_of off h hk hl hm
  rw [← hk] at this ⊢
  exact this
theorem end_x {Q : List Rdg} {r : Rdg} {k : Nat} {c : Int} (h : Run Q r) (hk : k + 1 = Q.length) (hl : Q.length ≤ 21) (hc : 1 ≤ c ∧ c ≤ 6) :
    endS ⟨tT, 1, tA, ⟨#[]⟩, 5, (k : Int), false, ⟨r.time, r.reg⟩⟩ ⟨#[83]⟩ ⟨r.time + 1, r.reg⟩ c false = (⟨⟨#[]⟩, 0, ⟨#[]⟩, ⟨#[]⟩, 0, 0, false, ⟨0, 0⟩⟩, lE Q.length (en19 r) c, 0) := end_of h hk hl hc
theorem cat_x (off : Bool) (Q : List Rdg) (r : Rdg) {e : EvD} (he : e = pE off Q.length r) : ((preE off Q).map Cod.enc ++ [evV e (.slice 2 (e.rds.map Cod.enc))] : List V) = (preE off (Q ++ [r])).map Cod.enc := by
  rw [pre_app, List.map_append, he]; rfl
theorem cat_y (off : Bool) (Q : List Rdg) (r : Rdg) {c : Int} {e : EvD} (he : e = lE Q.length r c) : ((preE off Q).map Cod.enc ++ [evV e (.slice 2 (e.rds.map Cod.enc))] : List V) = (allE off c Q r).map Cod.enc := by
  rw [allE, List.map_append, he]; rfl
end Go.Proofs.YteocedfakgdckaaDoor
namespace Go.Proofs.YteocedfakgdckaaDoor
set_option linter.all false
set_option linter.all false
open Go.Idl
set_option maxHeartbeats 32000000
set_option maxRecDepth 100000
theorem eqTxn19 : eqInfo Tryd.prog 26 = some [.s, .i .i64, .s, .s, .i .i64, .i .i64, .b, .i .i64, .i .i64] := by kernel_rfl
attribute [local go_sem] Tryd.underlying3 Tryd.underlying5 Tryd.underlying141 Tryd.underlying9 Tryd.underlying4 agInt agErr agFs Tryd.underlying22 agEv19 agObx agRec19 agTxn eqTxn19
abbrev STop : List V → Option V := FT fun (t : List (KInt .u8) × KInt .u8 × Bool × List (KInt .u8) × Unit) => some true
structure RuL where
  Q : List Rdg
  r : Rdg
  k : Nat
  x : EvD
  id : Nat
  n : Nat
  H : Heap
structure RuInv (off : Bool) (G xs : List (KInt .u8)) (p : RuL) : Prop where
  run : Run p.Q p.r
  len : p.Q.length + xs.length = G.length + 1
  kl : p.k + 1 = p.Q.length
  h0 : p.H 0 = .live 2 [.agg [.sc (.int .i64 p.r.time), .sc (.int .i64 p.r.reg)]] true
  h2 : p.H 2 = .live 9 [.agg [.sc (.string tT), .sc (.int .i64 1), .sc (.string tA), .sc (.string ⟨#[]⟩), .sc (.int .i64 5), .sc (.int .i64 (p.k : Int)), .sc (.bool false), .sc (.int .i64 p.r.time), .sc (.int .i64 p.r.reg)]] true
  h3 : p.H 3 = .live 10 [evV p.x (.slice 2 (p.x.rds.map Cod.enc))] true
  hl : p.H p.id = .live 10 ((preE off p.Q).map Cod.enc) true
  id2 : 3 < p.id ∧ p.id < p.n
  un : ∀ k, p.H (p.n + k) = .unborn
theorem con3 {Φ : Specs} (hg : Idl.Good Tryd.prog Φ) (h4 : Φ 4 = some SBeg) (h5 : Φ 5 = some SUpd) (h6 : Φ 6 = some SEnd) (h7 : Φ 7 = some SMake) (h8 : Φ 8 = some SDel) (h9 : Φ 9 = some SSameR) : Contract Tryd.prog 3 STop := by
  refine conT hg k3 ic3 (by decide) fun C t r h => ?_
  obtain ⟨G, rea, off, ord, u⟩ := t
  cases h
  have szk : Cod.sz (KInt .u8) = 1 := rfl
  by_cases hlen : G.length ≤ 20 ∧ ord.length ≤ 60
  · obtain ⟨hG, hO⟩ := hlen
    have d1 : decide ((G.length : Int) > 20) = false := by simp; omega
    have d2 : decide ((ord.length : Int) > 60) = false := by simp; omega
    have d0 : ((0 : Int) != 0) = false := rfl
    have hB := beg_x off
    obtain ⟨ev, hev⟩ : ∃ ev, ev = pE off 0 ⟨5, 100⟩ := ⟨_, rfl⟩
    rw [← hev] at hB
    simp +contextual only [go_sem, ↓reduceIte, Nat.reduceEqDiff, Nat.reduceAdd, Nat.reduceLeDiff, Nat.reduceLT, reduceCtorEq, c3, k3, List.length_map, szk, d1, d2, h4, hB, d0]
    refine triH fun H1 hH1 => ?_
    refine TriI.loopL hg k3 G (fun i (p : RuL) => ⟨slotsL [(1, .sc (.int .u8 rea.1)), (2, .sc (.bool off)), (3, Cod.enc ord), (9, .ref 0 0 0), (10, .ref 2 0 0), (11, .ref 3 0 0), (13, .own p.id 0 (p.k + 1)), (40, Cod.enc G), (41, .sc (.int .i64 G.length)), (42, .sc (.int .i64 i))], p.H, p.n⟩) (RuInv off G) ⟨[⟨5, 100⟩], ⟨5, 100⟩, 0, ev, 6, 7, H1⟩ (.slots ?_) ⟨run_one, by dsimp only [List.length_singleton]; omega, rfl, by dsimp only; rw [hH1]; rfl, by dsimp only; rw [hH1]; rfl, by dsimp only; rw [hH1]; rfl, by dsimp only; rw [hH1, hev]; rfl, by dsimp only; omega, fun k => by dsimp only; rw [hH1]; (repeat (refine (updH_ne (by omega)).trans ?_)); rfl⟩ ?_ ?_
    · simp +contextual only [go_sem, ↓reduceIte, Nat.reduceEqDiff, Nat.reduceAdd, Nat.reduceLeDiff, Nat.reduceLT, reduceCtorEq]
      exact ⟨rfl, rfl, rfl⟩
    · rintro ⟨Q, r, k, x, id, n, H⟩ ⟨g1, g2, g3, g4, g5, g6, g7, g8, g9⟩
      dsimp only at g1 g2 g3 g4 g5 g6 g7 g8 g9 ⊢
      have hm0 : 0 ≤ rea.1 ∧ rea.1 ≤ 255 := rea.2
      obtain ⟨m, hm⟩ : ∃ m, m = rea.1 := ⟨_, rfl⟩
      rw [← hm] at hm0
      have hQ : Q.length ≤ 21 := by rw [List.length_nil] at g2; omega
      have hc : 1 ≤ m.tmod 6 + 1 ∧ m.tmod 6 + 1 ≤ 6 := by
        have h1 := Int.tmod_nonneg 6 hm0.1
        have h2 := Int.tmod_lt_of_pos m (show (0 : Int) < 6 by decide)
        omega
      have hrok := g1.rok
      obtain ⟨r1, r2, r3, r4⟩ := hrok
      have w1 : IntKind.i64.wrap m = m := by rw [IntKind.wrap_i64]; omega
      have w2 : IntKind.i64.wrap (r.time + 1) = r.time + 1 := by rw [IntKind.wrap_i64]; omega
      have w3 : IntKind.i64.wrap (m.tmod 6 + 1) = m.tmod 6 + 1 := by rw [IntKind.wrap_i64]; omega
      have z1 : ((6 : Int) = 0) = False := by simp
      obtain ⟨c, hcc⟩ : ∃ c, c = m.tmod 6 + 1 := ⟨_, rfl⟩
      rw [← hcc] at hc w3
      have hE := end_x g1 g3 hQ hc
      have hR := run_end g1 hQ hc
      have e1 := all_evs (off := off) hR
      have e2 := all_make (off := off) hR
      have e3 : k + 2 = (allE off c Q (en19 r)).length := by rw [all_len, ← g3]
      obtain ⟨ev', hev'⟩ : ∃ ev', ev' = lE Q.length (en19 r) c := ⟨_, rfl⟩
      have hcat := cat_y off Q (en19 r) hev'
      rw [← hev'] at hE
      obtain ⟨E, hEE⟩ : ∃ E, E = allE off c Q (en19 r) := ⟨_, rfl⟩
      rw [← hEE] at e1 e2 e3 hcat
      obtain ⟨rec, hrec⟩ : ∃ rec, rec = (makeS E 100000).1 := ⟨_, rfl⟩
      have e4 : makeS E 100000 = (rec, 0) := by rw [hrec, ← e2]
      have e5 := e1.ordE
      have e6 := sameRec_self rec
      have e7 : rec.rds.length ≤ 1000000 := by rw [hrec]; have := makeS_rds E 100000; omega
      have d9 : ((0 : Int) == 0) = true := rfl
      have hu : H n = .unborn := g9 0
      have hun := g9
      have b1 : E.length * 120 ≤ 68719476736 := by omega
      have b2 : E.length ≤ 4294967296 := by omega
      have y1 : (id = 0) = False := by simp; omega
      have y2 : (id = 2) = False := by simp; omega
      have y3 : (id = 3) = False := by simp; omega
      have y4 : (0 = n) = False := by simp; omega
      have y5 : (2 = n) = False := by simp; omega
      have y6 : (3 = n) = False := by simp; omega
      have y7 : ∀ k, (id = n + k) = False := fun k => by simp; omega
      have y8 : (id = n) = False := by simp; omega
      have y9 : ∀ k, (n + k = id) = False := fun k => by simp; omega
      have ya : (0 = id) = False := by simp; omega
      have yb : (2 = id) = False := by simp; omega
      have yc : (3 = id) = False := by simp; omega
      have yd : (n = 0) = False := by simp; omega
      have hpl : (preE off Q).length = k + 1 := by rw [pre_len, g3]
      have hok : okE 10 (evV ev' (.slice 2 (ev'.rds.map Cod.enc))) = true := rfl
      simp +contextual only [go_sem, ↓reduceIte, Nat.reduceEqDiff, Nat.reduceAdd, Nat.reduceLeDiff, Nat.reduceLT, reduceCtorEq, k3, Int.lt_irrefl, decide_false, ← hm, w1, w2, ← hcc, w3, z1, ne_eq, not_false_eq_true, h6, hE, d0, g4, g5, g6, g7, hu, hun, b1, b2, y1, y2, y3, y4, y5, y6, y7, y8, y9, ya, yb, yc, yd, hpl, hok, List.length_map, isF_ev19, isF_rds, tk_rds, tk_ev19, Nat.zero_add, Nat.one_mul, Nat.mul_one, Nat.add_eq_left, Nat.left_eq_add, Nat.add_assoc, and_self, hcat, h7, e3, Nat.le_refl, e4, e5, h8, e1, hO, d9, h9, e6, e7, decL_enc Cod.dec_enc]
    · rintro i ⟨Q, r, k, x, id, n, H⟩ y xs hd hlt hx ⟨g1, g2, g3, g4, g5, g6, g7, g8, g9⟩
      dsimp only at g1 g2 g3 g4 g5 g6 g7 g8 g9 ⊢
      have hw := wrap_nat hlt (by omega)
      have hm0 : 0 ≤ y.1 ∧ y.1 ≤ 255 := y.2
      obtain ⟨m, hm⟩ : ∃ m, m = y.1 := ⟨_, rfl⟩
      rw [← hm] at hm0
      have hQ : Q.length ≤ 20 := by rw [List.length_cons] at g2; omega
      have hU := upd_x off g1 g3 hQ hm0
      have hrok := g1.rok
      obtain ⟨r1, r2, r3, r4⟩ := hrok
      have w1 : IntKind.i64.wrap (m + 1) = m + 1 := by rw [IntKind.wrap_i64]; omega
      have w2 : IntKind.i64.wrap (r.time + (m + 1)) = r.time + (m + 1) := by rw [IntKind.wrap_i64]; omega
      have w3 : IntKind.i64.wrap (7 * m) = 7 * m := by rw [IntKind.wrap_i64]; omega
      have w4 : IntKind.i64.wrap (r.reg + 7 * m) = r.reg + 7 * m := by rw [IntKind.wrap_i64]; omega
      have w5 : IntKind.i64.wrap m = m := by rw [IntKind.wrap_i64]; omega
      have z1 : ((100000 : Int) = 0) = False := by simp
      obtain ⟨ev', hev'⟩ : ∃ ev', ev' = pE off Q.length (nx19 r m) := ⟨_, rfl⟩
      rw [← hev'] at hU
      have hu : H n = .unborn := g9 0
      have hun := g9
      have b1 : (k + 1 + 1) * 120 ≤ 68719476736 := by omega
      have b2 : k + 1 + 1 ≤ 4294967296 := by omega
      have y1 : (id = 0) = False := by simp; omega
      have y2 : (id = 2) = False := by simp; omega
      have y3 : (id = 3) = False := by simp; omega
      have y4 : (0 = n) = False := by simp; omega
      have y5 : (2 = n) = False := by simp; omega
      have y6 : (3 = n) = False := by simp; omega
      have y7 : ∀ k, (id = n + k) = False := fun k => by simp; omega
      have y8 : (id = n) = False := by simp; omega
      have y9 : ∀ k, (n + k = id) = False := fun k => by simp; omega
      have ya : (0 = id) = False := by simp; omega
      have yb : (2 = id) = False := by simp; omega
      have yc : (3 = id) = False := by simp; omega
      have hpl : (preE off Q).length = k + 1 := by rw [pre_len, g3]
      have hok : okE 10 (evV ev' (.slice 2 (ev'.rds.map Cod.enc))) = true := rfl
      simp +contextual only [go_sem, ↓reduceIte, Nat.reduceEqDiff, Nat.reduceAdd, Nat.reduceLeDiff, Nat.reduceLT, reduceCtorEq, k3, hpl, hok, lt_dec hlt, hx, ← hm, hw, w1, w2, w3, w4, w5, z1, szk, ne_eq, not_false_eq_true, h5, hU, d0, g4, g5, g6, g7, hu, hun, b1, b2, y1, y2, y3, y4, y5, y6, y7, y8, y9, ya, yb, yc, List.getElem?_map, Option.map_some, Int.natCast_nonneg, Int.toNat_natCast, List.length_map, isF_ev19, isF_rds, tk_rds, tk_ev19, Nat.zero_add, Nat.one_mul, Nat.mul_one, Nat.add_eq_left, Nat.left_eq_add, Nat.add_assoc, and_self]
      have hcat := cat_x off Q (nx19 r m) hev'
      rw [hcat]
      refine againH fun H' hH' => ?_
      refine ⟨⟨Q ++ [nx19 r m], nx19 r m, k + 1, ev', n + 5, n + 6, H'⟩, ⟨run_nx g1 hQ hm0, ?_, ?_, ?_, ?_, ?_, ?_, ⟨by dsimp only; omega, by dsimp only; omega⟩, fun k => ?_⟩, .slots ?_⟩
      · dsimp only; rw [List.length_append, List.length_singleton]; rw [List.length_cons] at g2; omega
      · dsimp only; rw [List.length_append, List.length_singleton]; omega
      · dsimp only
        rw [hH']
        (repeat (refine (updH_ne (by omega)).trans ?_))
        exact updH_at
      · dsimp only
        rw [hH']
        (repeat (refine (updH_ne (by omega)).trans ?_))
        exact updH_at
      · dsimp only
        rw [hH']
        (repeat (refine (updH_ne (by omega)).trans ?_))
        exact updH_at
      · dsimp only
        rw [hH']
        exact updH_at
      · dsimp only
        rw [hH']
        (repeat (refine (updH_ne (by omega)).trans ?_))
        exact (congrArg H (Nat.add_assoc _ _ _)).trans (hun _)
      · simp +contextual only [go_sem, ↓reduceIte, Nat.reduceEqDiff, Nat.reduceAdd, Nat.reduceLeDiff, Nat.reduceLT, reduceCtorEq, List.length_append, List.length_singleton]
  · by_cases hG : G.length ≤ 20
    · have hO : ¬ ord.length ≤ 60 := fun h => hlen ⟨hG, h⟩
      have d1 : decide ((G.length : Int) > 20) = false := by simp; omega
      have d2 : decide ((ord.length : Int) > 60) = true := by simp; omega
      simp +contextual only [go_sem, ↓reduceIte, Nat.reduceEqDiff, Nat.reduceAdd, Nat.reduceLeDiff, Nat.reduceLT, reduceCtorEq, c3, k3, List.length_map, szk, d1, d2]
    · have d1 : decide ((G.length : Int) > 20) = true := by simp; omega
      simp +contextual only [go_sem, ↓reduceIte, Nat.reduceEqDiff, Nat.reduceAdd, Nat.reduceLeDiff, Nat.reduceLT, reduceCtorEq, c3, k3, List.length_map, szk, d1]
end Go.Proofs.YteocedfakgdckaaDoor
