/- What makes one list of another: plain law. -/
import Derived.Test.YtlkejejgaenjcaaList22j
namespace Go.Proofs.Ytlkejejgaenjcaa
set_option linter.all false
open Go.Idl
set_option maxHeartbeats 1000000
def restT (b : List TokD) (a : List TokD) : List TokD := a.filter (keptT b)
def chT (a : List TokD) (t : TokD) : Bool := !hasT a t
def difT (a b : List TokD) : List TokD := b.filter (chT a) ++ (restT b a).map remT
def diffS (a b : TListD) : List TokD × Int :=
  bif !(validL a == 0) then ([], validL a) else bif !(validL b == 0) then ([], validL b) else bif decide (b.version ≤ a.version) then ([], 11) else (srtT (difT a.tokens b.tokens), 0)
theorem kT_rem (t : TokD) : kT (remT t) = kT t := rfl
theorem dif_dis {a b : List TokD} (ha : DisK a) (hb : DisK b) : DisK (difT a b) := by
  unfold DisK difT
  rw [List.pairwise_append]
  refine ⟨hb.filter _, ?_, fun x hx y hy => ?_⟩
  · rw [List.pairwise_map]
    exact (ha.filter _).imp fun h => h
  · obtain ⟨t, ht, rfl⟩ := List.mem_map.1 hy
    have h1 : keptT b t = true := (List.mem_filter.1 ht).2
    have h2 : hasK b (kT t) = false := by simpa [keptT] using h1
    rw [kT_rem]
    exact hasK_not.1 h2 x (List.mem_filter.1 hx).1
theorem srt_congr {a b : List TokD} (hd : DisK b) (h : a.Perm b) : srtT a = srtT b :=
  sort_eq (hd.perm h.symm fun h => Ne.symm h) (sort_sorted hd) ((sort_perm hd).trans h.symm)
theorem del_chg : ∀ {p : List TokD} (k : ByteArray), DisK p → delM (chgK p) k = chgK (p.filter fun t => decide (kT t ≠ k))
  | [], k, _ => rfl
  | x :: p, k, hd => by
    have hd' := hd
    unfold DisK at hd'
    rw [List.pairwise_cons] at hd'
    have ih := del_chg k hd'.2
    unfold delM at ih ⊢
    by_cases h : k = kT x
    · subst h
      have : fidx (chgK (x :: p)) (kT x) = some 0 := by simp [fidx, chgK, List.findIdx?_cons]
      rw [this]
      have hf : (x :: p).filter (fun t => decide (kT t ≠ kT x)) = p := by
        rw [List.filter_cons_of_neg (by simp), List.filter_eq_self]
        intro t ht
        simpa using fun e => hd'.1 t ht e.symm
      rw [hf]
      rfl
    · have hk : fidx (chgK (x :: p)) k = (fidx (chgK p) k).map (· + 1) := by
        simp [fidx, chgK, List.findIdx?_cons, h]
      rw [List.filter_cons_of_pos (by simpa using fun e => h e.symm), hk]
      cases hf : fidx (chgK p) k with
      | none =>
        rw [hf] at ih
        simp only [Option.map_none] at ih ⊢
        show chgK (x :: p) = (kT x, x) :: chgK (p.filter _)
        rw [← ih]; rfl
      | some i =>
        rw [hf] at ih
        simp only [Option.map_some] at ih ⊢
        show ((kT x, x) :: chgK p).eraseIdx (i + 1) = (kT x, x) :: chgK (p.filter _)
        rw [← ih]; rfl
theorem rest_app (b : List TokD) (x : TokD) (a : List TokD) : restT (b ++ [x]) a = (restT b a).filter fun t => decide (kT t ≠ kT x) := by
  unfold restT
  rw [List.filter_filter]
  congr 1
  funext t
  simp only [keptT, hasK, List.any_append, List.any_cons, List.any_nil, Bool.or_false]
  by_cases h : kT x = kT t
  · have h' : kT t = kT x := h.symm
    simp [h']
  · have h' : ¬ kT t = kT x := fun e => h e.symm
    simp [h, h']
/-- A token of the second list, looked up among what is left of the first. -/
theorem look_rest {a b : List TokD} {x : TokD} (ha : DisK a) (hx : hasK b (kT x) = false) : lookM (chgK (restT b a)) (kT x) = a.find? fun t => decide (kT x = kT t) := by
  rw [look_chg, restT, List.find?_filter]
  congr 1
  funext t
  by_cases h : kT x = kT t
  · rw [← h]
    simp [keptT, ← h, hx]
  · simp [h]
theorem find_same {a : List TokD} (ha : DisK a) {x : TokD} : (∃ y, (a.find? fun t => decide (kT x = kT t)) = some y ∧ eqT y x = hasT a x) ∨ ((a.find? fun t => decide (kT x = kT t)) = none ∧ hasT a x = false) := by
  cases hf : a.find? fun t => decide (kT x = kT t) with
  | none =>
    right
    refine ⟨rfl, ?_⟩
    rw [List.find?_eq_none] at hf
    cases hh : hasT a x with
    | false => rfl
    | true => exact absurd (decide_eq_true rfl) (hf x (hasT_iff.1 hh))
  | some y =>
    left
    refine ⟨y, rfl, ?_⟩
    have hy := List.mem_of_find?_eq_some hf
    have hk : kT x = kT y := by simpa using List.find?_some hf
    cases hh : hasT a x with
    | true =>
      have hx := hasT_iff.1 hh
      rw [eqT_iff]
      by_cases e : y = x
      · exact e
      · exfalso
        obtain ⟨i, hi, rfl⟩ := List.getElem_of_mem hy
        obtain ⟨j, hj, rfl⟩ := List.getElem_of_mem hx
        unfold DisK at ha
        rw [List.pairwise_iff_getElem] at ha
        rcases Nat.lt_trichotomy i j with h | h | h
        · exact ha i j hi hj h hk.symm
        · subst h; exact e rfl
        · exact ha j i hj hi h hk
    | false =>
      cases he : eqT y x with
      | false => rfl
      | true =>
        rw [eqT_iff.1 he] at hy
        rw [hasT_iff.2 hy] at hh
        cases hh
theorem dif_len {a b : List TokD} (ha : a.length ≤ 128) (hb : b.length ≤ 128) : (difT a b).length ≤ 256 := by
  have h1 : (b.filter (chT a)).length ≤ b.length := List.length_filter_le _ _
  have h2 : (restT b a).length ≤ a.length := List.length_filter_le _ _
  simp only [difT, List.length_append, List.length_map]
  omega
theorem diff_wf {a b : TListD} {d : List TokD} (h : diffS a b = (d, 0)) : WFL a ∧ WFL b ∧ a.version < b.version ∧ d = srtT (difT a.tokens b.tokens) := by
  unfold diffS at h
  cases e1 : validL a == 0 with
  | false =>
    rw [e1, Bool.not_false, cond_true] at h
    have := congrArg Prod.snd h
    simp at e1
    exact absurd this e1
  | true =>
    rw [e1, Bool.not_true, cond_false] at h
    cases e2 : validL b == 0 with
    | false =>
      rw [e2, Bool.not_false, cond_true] at h
      have := congrArg Prod.snd h
      simp at e2
      exact absurd this e2
    | true =>
      rw [e2, Bool.not_true, cond_false] at h
      cases e3 : decide (b.version ≤ a.version) with
      | true => rw [e3, cond_true] at h; cases congrArg Prod.snd h
      | false =>
        rw [e3, cond_false] at h
        simp at e1 e2 e3
        exact ⟨(valid_iff a).1 e1, (valid_iff b).1 e2, e3, (congrArg Prod.fst h).symm⟩
theorem bool5 : ∀ p q r s u : Bool, (bif p then (4 : Int) else bif q then 4 else bif r then 2 else bif s then 2 else bif u then 2 else 0) = 0 → s = false := by decide
theorem tok_status {t : TokD} (h : tokS t = 0) : 1 ≤ t.status ∧ t.status ≤ 3 := by
  have := bool5 _ _ _ _ _ h
  simp at this
  omega
/-- The changes, applied, give the second list. -/
theorem back_eq {a b : TListD} {d : List TokD} (h : diffS a b = (d, 0)) (hl : d.length ≤ 128) : changeS a a.version b.version d = (b, 0) := by
  obtain ⟨wa, wb, hv, rfl⟩ := diff_wf h
  have da := dis_of wa
  have db := dis_of wb
  have dd := dif_dis da db
  have hp := sort_perm dd
  have ddS : DisK (srtT (difT a.tokens b.tokens)) := sorted_dis (sort_sorted dd)
  have hmem : ∀ t, t ∈ srtT (difT a.tokens b.tokens) ↔ (t ∈ b.tokens ∧ t ∉ a.tokens) ∨ ∃ x, x ∈ a.tokens ∧ hasK b.tokens (kT x) = false ∧ remT x = t := by
    intro t
    rw [hp.mem_iff]
    simp only [difT, restT, List.mem_append, List.mem_filter, List.mem_map, chT, keptT, Bool.not_eq_true', and_assoc]
    constructor
    · rintro (⟨h1, h2⟩ | h1)
      · refine .inl ⟨h1, fun h3 => ?_⟩
        rw [hasT_iff.2 h3] at h2; cases h2
      · exact .inr h1
    · rintro (⟨h1, h2⟩ | h1)
      · refine .inl ⟨h1, ?_⟩
        cases h3 : hasT a.tokens t with
        | false => rfl
        | true => exact absurd (hasT_iff.1 h3) h2
      · exact .inr h1
  have hok : ∀ t, t ∈ srtT (difT a.tokens b.tokens) → OkC a.tokens t := by
    intro t ht
    rcases (hmem t).1 ht with ⟨h1, _⟩ | ⟨x, h1, h2, rfl⟩
    · have h3 := wb.ok t h1
      have hs : t.status ≠ 0 := by
        have := tok_status h3
        omega
      have hs' : (t.status == 0) = false := by simpa using hs
      exact ⟨by unfold itemS; rw [hs', cond_false]; exact h3, fun e => absurd e hs⟩
    · have hn := tok_size (wa.ok x h1)
      refine ⟨?_, fun _ => hasK_iff.2 ⟨x, h1, rfl⟩⟩
      have e1 : eqT (remT x) (remT (remT x)) = true := eqT_iff.2 rfl
      have e2 : ((remT x).status == 0) = true := rfl
      unfold itemS
      rw [e2, cond_true, e1]
      show (bif !okName x.id then (4 : Int) else bif !true then 1 else 0) = 0
      rw [hn]; rfl
  have stb : ∀ t, t ∈ b.tokens → t.status ≠ 0 := by
    intro t h1
    have := tok_status (wb.ok t h1)
    omega
  have uniq : ∀ {l : List TokD}, DisK l → ∀ {x y}, x ∈ l → y ∈ l → kT x = kT y → x = y := by
    intro l hd x y hx hy he
    obtain ⟨i, hi, rfl⟩ := List.getElem_of_mem hx
    obtain ⟨j, hj, rfl⟩ := List.getElem_of_mem hy
    unfold DisK at hd
    rw [List.pairwise_iff_getElem] at hd
    rcases Nat.lt_trichotomy i j with h | h | h
    · exact absurd he (hd i j hi hj h)
    · subst h; rfl
    · exact absurd he.symm (hd j i hj hi h)
  have hnew : ∀ t, t ∈ newT a.tokens (srtT (difT a.tokens b.tokens)) ↔ t ∈ b.tokens := by
    intro t
    rw [new_mem]
    constructor
    · rintro (⟨h1, h2⟩ | ⟨h1, h2⟩)
      · have h3 := hasK_not.1 h2
        cases hb : hasK b.tokens (kT t) with
        | false => exact absurd rfl (h3 (remT t) ((hmem _).2 (.inr ⟨t, h1, hb, rfl⟩)))
        | true =>
          obtain ⟨y, hy, he⟩ := hasK_iff.1 hb
          by_cases hya : y ∈ a.tokens
          · rw [uniq da h1 hya he.symm]; exact hy
          · exact absurd he (h3 y ((hmem _).2 (.inl ⟨hy, hya⟩)))
      · rcases (hmem t).1 h1 with ⟨h3, _⟩ | ⟨x, _, _, rfl⟩
        · exact h3
        · exact absurd rfl h2
    · intro h1
      by_cases hta : t ∈ a.tokens
      · left
        refine ⟨hta, hasK_not.2 fun x hx he => ?_⟩
        rcases (hmem x).1 hx with ⟨h3, h4⟩ | ⟨y, h3, h4, rfl⟩
        · exact h4 (by rw [uniq db h3 h1 he]; exact hta)
        · exact absurd he.symm (hasK_not.1 h4 t h1)
      · exact .inr ⟨(hmem t).2 (.inl ⟨h1, hta⟩), stb t h1⟩
  have dn := new_dis da ddS
  have nodup : ∀ {l : List TokD}, DisK l → l.Nodup := fun hd => hd.imp fun h e => h (by rw [e])
  have hpn : (newT a.tokens (srtT (difT a.tokens b.tokens))).Perm b.tokens := (List.perm_ext_iff_of_nodup (nodup dn) (nodup db)).2 hnew
  have h0 := wa.v0
  have h1 := wb.v1
  have h2 := wb.max
  rw [change_ok wa (by omega) h1 rfl hv hl hok ddS (by rw [hpn.length_eq]; exact h2), sort_eq dn wb.sorted hpn.symm]
end Go.Proofs.Ytlkejejgaenjcaa
