/- Two partners (plain): the records and disputes of the sessions. -/
import Derived.Test.YtalhbhbkdfmhgaaPla25a
namespace Go.Proofs.Ytalhbhbkdfmhgaa
set_option linter.all false
open Go.Idl
set_option maxRecDepth 100000
@[ext] structure DealD where
  back : Bool
  net : KInt .u16
  claim : KInt .u16
  granted : KInt .u16
  credited : Bool
def DealD.dec : V → Option DealD
  | .agg [c0, c1, c2, c3, c4] => bO (Cod.dec c0 : Option (Bool)) fun a0 => bO (Cod.dec c1 : Option (KInt .u16)) fun a1 => bO (Cod.dec c2 : Option (KInt .u16)) fun a2 => bO (Cod.dec c3 : Option (KInt .u16)) fun a3 => bO (Cod.dec c4 : Option (Bool)) fun a4 => some (.mk a0 a1 a2 a3 a4)
  | _ => none
instance : Cod DealD where
  enc := fun d => .agg [Cod.enc d.back, Cod.enc d.net, Cod.enc d.claim, Cod.enc d.granted, Cod.enc d.credited]
  dec := DealD.dec
  sz := 5
  len := fun _ => rfl
  dec_enc := fun d => by
    simp only [DealD.dec, Cod.dec_enc, bO_some]
  le := fun v a h => by
    unfold DealD.dec at h
    split at h
    · simp only [bO_eq] at h
      obtain ⟨a0, h0, a1, h1, a2, h2, a3, h3, a4, h4, he⟩ := h
      cases he
      exact .agg (.cons (Cod.le _ _ h0).le (.cons (Cod.le _ _ h1).le (.cons (Cod.le _ _ h2).le (.cons (Cod.le _ _ h3).le (.cons (Cod.le _ _ h4).le .nil)))))
    · cases h
@[go_sem ↓] theorem DealD.enc_eq (d : DealD) : Cod.enc d = .agg [Cod.enc d.back, Cod.enc d.net, Cod.enc d.claim, Cod.enc d.granted, Cod.enc d.credited] := rfl
@[go_sem ↓] theorem DealD.dec_eq (c0 c1 c2 c3 c4 : V) : (Cod.dec (.agg [c0, c1, c2, c3, c4]) : Option DealD) = bO (Cod.dec c0 : Option (Bool)) fun a0 => bO (Cod.dec c1 : Option (KInt .u16)) fun a1 => bO (Cod.dec c2 : Option (KInt .u16)) fun a2 => bO (Cod.dec c3 : Option (KInt .u16)) fun a3 => bO (Cod.dec c4 : Option (Bool)) fun a4 => some (.mk a0 a1 a2 a3 a4) := rfl
def DealD.ok (d : DealD) : Prop := True ∧ True ∧ True ∧ True ∧ True
@[go_sem] theorem DealD.eta (d : DealD) : DealD.mk d.back d.net d.claim d.granted d.credited = d := rfl
@[go_sem ↓] theorem DealD.sz_eq : Cod.sz DealD = 5 := rfl
theorem net_in (d : DealD) : 0 ≤ d.net.val ∧ d.net.val ≤ 65535 := ⟨d.net.2.1, d.net.2.2⟩
def sdig (i : Nat) : UInt8 := UInt8.ofNat (48 + i)
def cId (i : Nat) : ByteArray := ⟨#[99, sdig i]⟩
def kId (i : Nat) : ByteArray := ⟨#[107, 99, sdig i]⟩
def sId (i : Nat) : ByteArray := ⟨#[83, 45, sdig i]⟩
def nA : ByteArray := ⟨#[65]⟩
def nB : ByteArray := ⟨#[66]⟩
def opD (d : DealD) : ByteArray := bif d.back then nB else nA
def prD (d : DealD) : ByteArray := bif d.back then nA else nB
def recD (i : Nat) (d : DealD) : CdrD := ⟨cId i, opD d, prD d, sId i, 1, (i : Int), (i : Int) + 30, d.net.val, ⟨#[84]⟩, ⟨#[69, 85, 82]⟩, [⟨2, 300, 0, d.net.val, d.net.val, 0, d.net.val⟩], d.net.val, false, ⟨#[]⟩⟩
def creD (i : Nat) (d : DealD) : CdrD := ⟨kId i, opD d, prD d, sId i, 1, (i : Int), (i : Int) + 30, d.net.val, ⟨#[84]⟩, ⟨#[69, 85, 82]⟩, [⟨2, -300, 0, d.net.val, -d.net.val, 0, -d.net.val⟩], -d.net.val, true, cId i⟩
theorem dig_inj {i j : Nat} (hi : i < 10) (hj : j < 10) (h : sdig i = sdig j) : i = j := by
  have := congrArg UInt8.toNat h
  unfold sdig at this
  rw [UInt8.toNat_ofNat', UInt8.toNat_ofNat'] at this
  omega
theorem cId_inj {i j : Nat} (hi : i < 10) (hj : j < 10) (h : cId i = cId j) : i = j := by
  have := congrArg (fun b : ByteArray => b.data.toList) h
  simp [cId] at this
  exact dig_inj hi hj this
theorem kId_inj {i j : Nat} (hi : i < 10) (hj : j < 10) (h : kId i = kId j) : i = j := by
  have := congrArg (fun b : ByteArray => b.data.toList) h
  simp [kId] at this
  exact dig_inj hi hj this
theorem ck_ne (i j : Nat) : cId i ≠ kId j := fun h => by
  have := congrArg ByteArray.size h
  simp [cId, kId, ByteArray.size] at this
theorem lt10 {P : Nat → Prop} {i : Nat} (hi : i < 10) (h0 : P 0) (h1 : P 1) (h2 : P 2) (h3 : P 3) (h4 : P 4) (h5 : P 5) (h6 : P 6) (h7 : P 7) (h8 : P 8) (h9 : P 9) : P i := by
  match i, hi with
  | 0, _ => exact h0
  | 1, _ => exact h1
  | 2, _ => exact h2
  | 3, _ => exact h3
  | 4, _ => exact h4
  | 5, _ => exact h5
  | 6, _ => exact h6
  | 7, _ => exact h7
  | 8, _ => exact h8
  | 9, _ => exact h9
  | n + 10, h => omega
theorem ok_c {i : Nat} (hi : i < 10) : okName (cId i) = true := lt10 (P := fun i => okName (cId i) = true) hi (by decide +kernel) (by decide +kernel) (by decide +kernel) (by decide +kernel) (by decide +kernel) (by decide +kernel) (by decide +kernel) (by decide +kernel) (by decide +kernel) (by decide +kernel)
theorem ok_k {i : Nat} (hi : i < 10) : okName (kId i) = true := lt10 (P := fun i => okName (kId i) = true) hi (by decide +kernel) (by decide +kernel) (by decide +kernel) (by decide +kernel) (by decide +kernel) (by decide +kernel) (by decide +kernel) (by decide +kernel) (by decide +kernel) (by decide +kernel)
theorem ok_s {i : Nat} (hi : i < 10) : okName (sId i) = true := lt10 (P := fun i => okName (sId i) = true) hi (by decide +kernel) (by decide +kernel) (by decide +kernel) (by decide +kernel) (by decide +kernel) (by decide +kernel) (by decide +kernel) (by decide +kernel) (by decide +kernel) (by decide +kernel)
theorem ok_A : okName nA = true := by decide +kernel
theorem ok_B : okName nB = true := by decide +kernel
theorem ok_T : okName ⟨#[84]⟩ = true := by decide +kernel
theorem cur_E : curS ⟨#[69, 85, 82]⟩ = true := by decide +kernel
theorem AB : ¬ nA = nB := by decide +kernel
theorem ok_op (d : DealD) : okName (opD d) = true := by unfold opD; cases d.back <;> simp [ok_A, ok_B]
theorem ok_pr (d : DealD) : okName (prD d) = true := by unfold prD; cases d.back <;> simp [ok_A, ok_B]
theorem op_pr (d : DealD) : ¬ opD d = prD d := by unfold opD prD; cases d.back <;> simp [AB, Ne.symm AB, eq_comm]
theorem names_mk {l : List ByteArray} (h : ∀ x ∈ l, okName x = true) : namesS l = 0 := by unfold namesS; rw [if_pos (List.all_eq_true.2 h)]
theorem inR_mk {lo hi x : Int} (h : lo ≤ x ∧ x ≤ hi) : inR lo hi x = true := by simp [inR, h.1, h.2]
theorem range_mk {i : Nat} (hi : i < 10) (d : DealD) : (inR 1 2147483647 1 && (!(!(inR 0 268435456 (i : Int) && inR 0 268435456 ((i : Int) + 30)) || decide ((i : Int) > (i : Int) + 30)) && inR 0 36028797018963968 d.net.val)) = true := by
  obtain ⟨n0, n1⟩ := net_in d
  rw [inR_mk (lo := 1) (by decide), inR_mk (x := (i : Int)) (by omega), inR_mk (x := (i : Int) + 30) (by omega), inR_mk (x := d.net.val) (by omega), decide_eq_false (by omega)]
  rfl
theorem rec_ok {i : Nat} (hi : i < 10) (d : DealD) : cdrS (recD i d) = 0 := by
  obtain ⟨n0, n1⟩ := net_in d
  have e1 : namesS [cId i, opD d, prD d, sId i, ⟨#[84]⟩] = 0 := names_mk (by simp [ok_c hi, ok_op, ok_pr, ok_s hi, ok_T])
  have e2 : rangeC (recD i d) = true := range_mk hi d
  have e3 : itemsE (recD i d) = 0 := by
    have w : IntKind.i64.wrap (d.net.val + 0) = d.net.val := by rw [IntKind.wrap_i64]; omega
    have hit : itemS ⟨2, 300, 0, d.net.val, d.net.val, 0, d.net.val⟩ = true := by
      show (inR 1 4 2 && inR 0 10000 0 && inR (-36028797018963968) 36028797018963968 d.net.val && inR (-36028797018963968) 36028797018963968 0 && inR (-36028797018963968) 36028797018963968 (300) && inR 0 36028797018963968 d.net.val && (d.net.val == IntKind.i64.wrap (d.net.val + 0))) = true
      rw [w, inR_mk (x := 2) (by decide), inR_mk (lo := 0) (x := 0) (by decide), inR_mk (x := d.net.val) (by omega), inR_mk (lo := -36028797018963968) (x := 0) (by decide), inR_mk (x := 300) (by decide), inR_mk (lo := 0) (x := d.net.val) (by omega)]
      simp
    unfold itemsE itemsS recD
    simp only [List.length_cons, List.length_nil, List.all_cons, List.all_nil, hit]
    have w2 : sumW [(⟨2, 300, 0, d.net.val, d.net.val, 0, d.net.val⟩ : ItemD)] 0 = d.net.val := by
      simp only [sumW]
      rw [IntKind.wrap_i64]; omega
    rw [w2]; simp
  rw [cdrS]
  show (bif namesS [cId i, opD d, prD d, sId i, ⟨#[84]⟩] != 0 then _ else _) = _
  rw [e1, e2, e3]
  show (bif decide (opD d = prD d) then _ else bif !true then _ else bif !curS ⟨#[69, 85, 82]⟩ then _ else _) = _
  rw [decide_eq_false (op_pr d), cur_E]
  rfl
theorem cre_ok {i : Nat} (hi : i < 10) (d : DealD) : cdrS (creD i d) = 0 := by
  obtain ⟨n0, n1⟩ := net_in d
  have e1 : namesS [kId i, opD d, prD d, sId i, ⟨#[84]⟩] = 0 := names_mk (by simp [ok_k hi, ok_op, ok_pr, ok_s hi, ok_T])
  have e2 : rangeC (creD i d) = true := range_mk hi d
  have e3 : itemsE (creD i d) = 0 := by
    have w : IntKind.i64.wrap (-d.net.val + 0) = -d.net.val := by rw [IntKind.wrap_i64]; omega
    have hit : itemS ⟨2, -300, 0, d.net.val, -d.net.val, 0, -d.net.val⟩ = true := by
      show (inR 1 4 2 && inR 0 10000 0 && inR (-36028797018963968) 36028797018963968 (-d.net.val) && inR (-36028797018963968) 36028797018963968 0 && inR (-36028797018963968) 36028797018963968 (-300) && inR 0 36028797018963968 d.net.val && ((-d.net.val) == IntKind.i64.wrap ((-d.net.val) + 0))) = true
      rw [w, inR_mk (x := 2) (by decide), inR_mk (lo := 0) (x := 0) (by decide), inR_mk (x := (-d.net.val)) (by omega), inR_mk (lo := -36028797018963968) (x := 0) (by decide), inR_mk (x := -300) (by decide), inR_mk (lo := 0) (x := d.net.val) (by omega)]
      simp
    unfold itemsE itemsS creD
    simp only [List.length_cons, List.length_nil, List.all_cons, List.all_nil, hit]
    have w2 : sumW [(⟨2, -300, 0, d.net.val, -d.net.val, 0, -d.net.val⟩ : ItemD)] 0 = -d.net.val := by
      simp only [sumW]
      rw [IntKind.wrap_i64]; omega
    rw [w2]; simp
  have e4 : refS (creD i d) = 0 := by
    unfold refS creD
    simp [ok_c hi, ck_ne]
  rw [cdrS]
  show (bif namesS [kId i, opD d, prD d, sId i, ⟨#[84]⟩] != 0 then _ else _) = _
  rw [e1, e2, e3, e4]
  show (bif decide (opD d = prD d) then _ else bif !true then _ else bif !curS ⟨#[69, 85, 82]⟩ then _ else _) = _
  rw [decide_eq_false (op_pr d), cur_E]
  rfl
theorem cre_eq {i : Nat} (hi : i < 10) (d : DealD) : crS (recD i d) (kId i) = (creD i d, 0) := by
  obtain ⟨n0, n1⟩ := net_in d
  have w1 : IntKind.i64.wrap (0 - d.net.val) = -d.net.val := by rw [IntKind.wrap_i64]; omega
  have w2 : IntKind.i64.wrap (0 - 300) = -300 := by decide
  have w3 : IntKind.i64.wrap (0 - 0) = 0 := by decide
  rw [crS, rec_ok hi d, ok_k hi]
  show (bif !(0 == 0) then _ else bif false then _ else bif !true then _ else bif decide (kId i = cId i) then _ else _) = _
  rw [decide_eq_false (fun h => ck_ne i i h.symm)]
  show ((⟨kId i, opD d, prD d, sId i, 1, (i : Int), (i : Int) + 30, d.net.val, ⟨#[84]⟩, ⟨#[69, 85, 82]⟩, [⟨2, IntKind.i64.wrap (0 - 300), 0, d.net.val, IntKind.i64.wrap (0 - d.net.val), IntKind.i64.wrap (0 - 0), IntKind.i64.wrap (0 - d.net.val)⟩], IntKind.i64.wrap (0 - d.net.val), true, cId i⟩ : CdrD), (0 : Int)) = _
  rw [w1, w2, w3]
  rfl
def billD (i : Nat) (d : DealD) : List CdrD := if d.credited = true then [recD i d, creD i d] else [recD i d]
def rcs (w : Bool) : Nat → List DealD → List CdrD
  | _, [] => []
  | i, d :: l => (if d.back = w then billD i d else []) ++ rcs w (i + 1) l
theorem rcs_app (w : Bool) : ∀ (l : List DealD) (i : Nat) (d : DealD), rcs w i (l ++ [d]) = rcs w i l ++ (if d.back = w then billD (i + l.length) d else [])
  | [], i, d => by simp [rcs]
  | x :: l, i, d => by
    rw [List.cons_append, rcs, rcs, rcs_app w l (i + 1) d, List.append_assoc, List.length_cons, show i + 1 + l.length = i + (l.length + 1) by omega]
theorem rcs_mem {w : Bool} {c : CdrD} : ∀ {l : List DealD} {i : Nat}, c ∈ rcs w i l ↔ ∃ j d, l[j]? = some d ∧ d.back = w ∧ (c = recD (i + j) d ∨ (d.credited = true ∧ c = creD (i + j) d))
  | [], i => by simp [rcs]
  | x :: l, i => by
    have ih := rcs_mem (w := w) (c := c) (l := l) (i := i + 1)
    rw [rcs, List.mem_append, ih]
    constructor
    · rintro (h | ⟨j, d, h1, h2, h3⟩)
      · split at h
        · rename_i hb
          refine ⟨0, x, rfl, hb, ?_⟩
          unfold billD at h
          split at h
          · rename_i hc
            simp at h
            rcases h with h | h
            · exact .inl h
            · exact .inr ⟨hc, h⟩
          · simp at h
            exact .inl h
        · cases h
      · refine ⟨j + 1, d, h1, h2, ?_⟩
        rw [show i + 1 + j = i + (j + 1) by omega] at h3
        exact h3
    · rintro ⟨j, d, h1, h2, h3⟩
      cases j with
      | zero =>
        cases h1
        left
        rw [if_pos h2, billD]
        rcases h3 with h3 | ⟨hc, h3⟩
        · split <;> simp [h3]
        · rw [if_pos hc]; simp [h3]
      | succ j =>
        right
        refine ⟨j, d, h1, h2, ?_⟩
        rw [show i + 1 + j = i + (j + 1) by omega]
        exact h3
theorem rcs_len (w : Bool) : ∀ (l : List DealD) (i : Nat), (rcs w i l).length ≤ 2 * l.length
  | [], i => by simp [rcs]
  | x :: l, i => by
    have := rcs_len w l (i + 1)
    rw [rcs, List.length_append, List.length_cons]
    have : (if x.back = w then billD i x else []).length ≤ 2 := by
      split
      · unfold billD; split <;> simp
      · simp
    omega
theorem rec_of {w w' : Bool} {c c' : CdrD} {l : List DealD} (hl : l.length ≤ 10) (h : c ∈ rcs w 0 l) (h' : c' ∈ rcs w' 0 l) (he : c.id = c'.id) : w = w' ∧ c = c' := by
  obtain ⟨j, d, h1, h2, h3⟩ := rcs_mem.1 h
  obtain ⟨j', d', h1', h2', h3'⟩ := rcs_mem.1 h'
  have hj := (List.getElem?_eq_some_iff.1 h1).1
  have hj' := (List.getElem?_eq_some_iff.1 h1').1
  rw [Nat.zero_add] at h3 h3'
  have key : j = j' → w = w' ∧ c = c' := fun e => by
    subst e
    rw [h1] at h1'
    cases h1'
    refine ⟨by rw [← h2, ← h2'], ?_⟩
    rcases h3 with rfl | ⟨_, rfl⟩ <;> rcases h3' with rfl | ⟨_, rfl⟩
    · rfl
    · exact absurd he (ck_ne j j)
    · exact absurd he.symm (ck_ne j j)
    · rfl
  rcases h3 with rfl | ⟨_, rfl⟩ <;> rcases h3' with rfl | ⟨_, rfl⟩
  · exact key (cId_inj (by omega) (by omega) he)
  · exact absurd he (ck_ne j j')
  · exact absurd he.symm (ck_ne j' j)
  · exact key (kId_inj (by omega) (by omega) he)
theorem rcs_nodup (w : Bool) : ∀ {l : List DealD} {i : Nat}, i + l.length ≤ 10 → ((rcs w i l).map CdrD.id).Nodup
  | [], i, _ => by simp [rcs]
  | x :: l, i, h => by
    rw [List.length_cons] at h
    have ih := rcs_nodup w (l := l) (i := i + 1) (by omega)
    rw [rcs, List.map_append, List.nodup_append]
    refine ⟨?_, ih, ?_⟩
    · split
      · unfold billD
        split
        · simp [recD, creD, ck_ne]
        · simp
      · simp
    · intro a ha b hb hab
      obtain ⟨c, hc, rfl⟩ := List.mem_map.1 ha
      obtain ⟨c', hc', rfl⟩ := List.mem_map.1 hb
      obtain ⟨j, d, h1, _, h3⟩ := rcs_mem.1 hc'
      have hj := (List.getElem?_eq_some_iff.1 h1).1
      have hci : c.id = cId i ∨ c.id = kId i := by
        split at hc
        · unfold billD at hc
          split at hc
          · simp at hc
            rcases hc with rfl | rfl
            · exact .inl rfl
            · exact .inr rfl
          · simp at hc
            subst hc; exact .inl rfl
        · cases hc
      rcases hci with e | e <;> rcases h3 with rfl | ⟨_, rfl⟩ <;> rw [e] at hab
      · have := cId_inj (by omega) (by omega) hab; omega
      · exact ck_ne _ _ hab
      · exact ck_ne _ _ hab.symm
      · have := kId_inj (by omega) (by omega) hab; omega
theorem both_nodup (w : Bool) {l : List DealD} (hl : l.length ≤ 10) : ((rcs w 0 l ++ rcs (!w) 0 l).map CdrD.id).Nodup := by
  rw [List.map_append, List.nodup_append]
  refine ⟨rcs_nodup w (by omega), rcs_nodup (!w) (by omega), ?_⟩
  intro a ha b hb hab
  obtain ⟨c, hc, rfl⟩ := List.mem_map.1 ha
  obtain ⟨c', hc', rfl⟩ := List.mem_map.1 hb
  have := (rec_of hl hc hc' hab).1
  cases w <;> cases this
theorem rcs_ok {w : Bool} {l : List DealD} (hl : l.length ≤ 10) {c : CdrD} (h : c ∈ rcs w 0 l) : cdrS c = 0 ∧ ((c.operator = (bif w then nB else nA)) ∧ c.provider = (bif w then nA else nB)) ∧ c.items.length ≤ 1 ∧ c.currency.size = 3 := by
  obtain ⟨j, d, h1, h2, h3⟩ := rcs_mem.1 h
  have hj := (List.getElem?_eq_some_iff.1 h1).1
  subst h2
  rcases h3 with rfl | ⟨_, rfl⟩
  · exact ⟨rec_ok (by omega) d, ⟨rfl, rfl⟩, by simp [recD], rfl⟩
  · exact ⟨cre_ok (by omega) d, ⟨rfl, rfl⟩, by simp [creD], rfl⟩
end Go.Proofs.Ytalhbhbkdfmhgaa
