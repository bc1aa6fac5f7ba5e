/- The order of keys; lists in order; what is asked of a list of tokens. -/
import Derived.Test.YtlkejejgaenjcaaList22a
namespace Go.Proofs.Ytlkejejgaenjcaa
set_option linter.all false
open Go.Idl
set_option maxHeartbeats 1000000

theorem less_irrefl : ∀ l : List UInt8, Op.bytesLess l l = false
  | [] => rfl
  | x :: l => by simp [Op.bytesLess, less_irrefl l]
theorem less_trans : ∀ (a b c : List UInt8), Op.bytesLess a b = true → Op.bytesLess b c = true → Op.bytesLess a c = true
  | [], [], _, h, _ => by simp [Op.bytesLess] at h
  | [], _ :: _, [], _, h => by simp [Op.bytesLess] at h
  | [], _ :: _, _ :: _, _, _ => rfl
  | _ :: _, [], _, h, _ => by simp [Op.bytesLess] at h
  | _ :: _, _ :: _, [], _, h => by simp [Op.bytesLess] at h
  | x :: a, y :: b, z :: c, h1, h2 => by
    have ih := less_trans a b c
    simp only [Op.bytesLess, Bool.or_eq_true, Bool.and_eq_true, decide_eq_true_eq, beq_iff_eq] at h1 h2 ⊢
    rcases h1 with h1 | ⟨rfl, h1⟩ <;> rcases h2 with h2 | ⟨rfl, h2⟩
    · exact .inl (UInt8.lt_trans h1 h2)
    · exact .inl h1
    · exact .inl h2
    · exact .inr ⟨rfl, ih h1 h2⟩
theorem less_total : ∀ (a b : List UInt8), Op.bytesLess a b = false → Op.bytesLess b a = false → a = b
  | [], [], _, _ => rfl
  | [], _ :: _, h, _ => by simp [Op.bytesLess] at h
  | _ :: _, [], _, h => by simp [Op.bytesLess] at h
  | x :: a, y :: b, h1, h2 => by
    have ih := less_total a b
    simp only [Op.bytesLess, Bool.or_eq_false_iff, decide_eq_false_iff_not, Bool.and_eq_false_iff, beq_eq_false_iff_ne] at h1 h2
    have e : x = y := UInt8.le_antisymm (UInt8.not_lt.1 h2.1) (UInt8.not_lt.1 h1.1)
    subst e
    rw [ih (h1.2.resolve_left fun h => h rfl) (h2.2.resolve_left fun h => h rfl)]
theorem lt_irr (a : ByteArray) : ltS a a = false := less_irrefl _
theorem lt_trans {a b c : ByteArray} (h1 : ltS a b = true) (h2 : ltS b c = true) : ltS a c = true := less_trans _ _ _ h1 h2
theorem lt_total {a b : ByteArray} (h1 : ltS a b = false) (h2 : ltS b a = false) : a = b := by
  have := less_total _ _ h1 h2
  cases a with | mk x => cases b with | mk y =>
  have h : (ByteArray.mk x).data.toList = (ByteArray.mk y).data.toList := by rw [← toList_data, ← toList_data]; exact this
  simp at h
  rw [h]
theorem lt_asym {a b : ByteArray} (h : ltS a b = true) : ltS b a = false := by
  cases h2 : ltS b a with
  | false => rfl
  | true => have := lt_trans h h2; rw [lt_irr] at this; cases this
theorem cmpT_ge (a b : ByteArray) : decide (cmpT a b ≥ 0) = !ltS a b := by
  unfold cmpT
  cases ltS a b with
  | true => rfl
  | false => cases (!(false || decide (a = b))) <;> rfl
theorem cmpT_neg (a b : ByteArray) : cmpT a b < 0 ↔ ltS a b = true := by
  unfold cmpT
  cases ltS a b with
  | true => simp
  | false => cases (!(false || decide (a = b))) <;> simp
theorem leq_lt (a b : ByteArray) : (ltS a b || decide (a = b)) = !ltS b a := by
  cases h : ltS a b with
  | true => rw [lt_asym h]; rfl
  | false =>
    cases h2 : ltS b a with
    | false =>
      have := lt_total h h2
      simp [this]
    | true =>
      have : a ≠ b := fun e => by rw [e, lt_irr] at h2; cases h2
      simp [this]
theorem gtr_lt (a b : ByteArray) : (!(ltS a b || decide (a = b))) = ltS b a := by rw [leq_lt, Bool.not_not]

def kT (t : TokD) : ByteArray := keyB t.id
def LtT (a b : TokD) : Prop := ltS (kT a) (kT b) = true
/-- Keys are all different. -/
def DisK (l : List TokD) : Prop := l.Pairwise fun a b => kT a ≠ kT b
def insK (l : List TokD) (x : TokD) : List TokD := l.filter (fun t => ltS (kT t) (kT x)) ++ [x] ++ l.filter (fun t => ltS (kT x) (kT t))
def srtT (l : List TokD) : List TokD := l.foldl insK []
theorem LtT.ne {a b : TokD} (h : LtT a b) : kT a ≠ kT b := fun e => by unfold LtT at h; rw [e, lt_irr] at h; cases h
theorem split_perm {l : List TokD} {k : ByteArray} (h : ∀ t, t ∈ l → kT t ≠ k) : (l.filter (fun t => ltS (kT t) k) ++ l.filter (fun t => ltS k (kT t))).Perm l := by
  induction l with
  | nil => exact List.Perm.refl _
  | cons t l ih =>
    have h1 := ih fun x hx => h x (by simp [hx])
    cases hl : ltS (kT t) k with
    | true =>
      rw [List.filter_cons_of_pos (by simpa using hl), List.filter_cons_of_neg (by simp [lt_asym hl]), List.cons_append]
      exact h1.cons t
    | false =>
      have hg : ltS k (kT t) = true := by
        cases hg : ltS k (kT t) with
        | true => rfl
        | false => exact absurd (lt_total hl hg) (h t (by simp))
      rw [List.filter_cons_of_neg (by simp [hl]), List.filter_cons_of_pos (by simpa using hg)]
      exact List.perm_middle.trans (h1.cons t)
theorem ins_perm {l : List TokD} {x : TokD} (h : ∀ t, t ∈ l → kT t ≠ kT x) : (insK l x).Perm (l ++ [x]) := by
  have h1 := split_perm h
  unfold insK
  rw [List.append_assoc]
  refine (List.Perm.append_left _ (List.perm_append_comm (l₁ := [x]))).trans ?_
  rw [← List.append_assoc]
  exact h1.append_right _
theorem ins_sorted {l : List TokD} {x : TokD} (hs : l.Pairwise LtT) : (insK l x).Pairwise LtT := by
  unfold insK
  rw [List.append_assoc, List.pairwise_append]
  refine ⟨hs.filter _, ?_, ?_⟩
  · rw [List.singleton_append, List.pairwise_cons]
    refine ⟨fun b hb => ?_, hs.filter _⟩
    have := (List.mem_filter.1 hb).2
    exact this
  · intro a ha b hb
    have h1 : ltS (kT a) (kT x) = true := (List.mem_filter.1 ha).2
    rw [List.singleton_append, List.mem_cons] at hb
    rcases hb with rfl | hb
    · exact h1
    · have h2 : ltS (kT x) (kT b) = true := (List.mem_filter.1 hb).2
      exact lt_trans h1 h2
theorem sort_from : ∀ {l out : List TokD}, out.Pairwise LtT → DisK (out ++ l) → (l.foldl insK out).Perm (out ++ l) ∧ (l.foldl insK out).Pairwise LtT
  | [], out, h, _ => by simpa using h
  | x :: l, out, h, hd => by
    have hx : ∀ t, t ∈ out → kT t ≠ kT x := fun t ht => by
      unfold DisK at hd
      rw [List.pairwise_append] at hd
      exact hd.2.2 t ht x (by simp)
    have hp := ins_perm hx
    have hp2 : (insK out x ++ l).Perm (out ++ x :: l) := by
      have := hp.append_right l
      rwa [List.append_assoc, List.singleton_append] at this
    have hd2 : DisK (insK out x ++ l) := hd.perm hp2.symm fun h => Ne.symm h
    obtain ⟨h1, h2⟩ := sort_from (l := l) (ins_sorted (x := x) h) hd2
    exact ⟨h1.trans hp2, h2⟩
theorem sort_perm {l : List TokD} (hd : DisK l) : (srtT l).Perm l := by simpa [srtT] using (sort_from (l := l) (out := []) .nil (by simpa using hd)).1
theorem sort_sorted {l : List TokD} (hd : DisK l) : (srtT l).Pairwise LtT := by simpa [srtT] using (sort_from (l := l) (out := []) .nil (by simpa using hd)).2
theorem sorted_dis {l : List TokD} (h : l.Pairwise LtT) : DisK l := h.imp fun h => h.ne
theorem sorted_eq {a b : List TokD} (ha : a.Pairwise LtT) (hb : b.Pairwise LtT) (hp : a.Perm b) : a = b := by
  refine List.Perm.eq_of_pairwise (le := LtT) (fun x y _ _ h1 h2 => ?_) ha hb hp
  have := lt_asym h1
  unfold LtT at h2
  rw [this] at h2
  cases h2
theorem sort_eq {a b : List TokD} (hd : DisK a) (hb : b.Pairwise LtT) (hp : b.Perm a) : srtT a = b := sorted_eq (sort_sorted hd) hb ((sort_perm hd).trans hp.symm)

/-! ### Errors -/
def badO : Option TokD → TokD → Bool
  | none, _ => false
  | some q, t => !ltS (kT q) (kT t)
def vTok : Option TokD → List TokD → Int
  | _, [] => 0
  | p, t :: l => bif !(tokS t == 0) then tokS t else bif badO p t then 1 else vTok (some t) l
def validL (l : TListD) : Int := bif decide (l.version < 0) || decide (l.version > 2147483647) then 2 else bif decide ((l.tokens.length : Int) > 128) then 3 else
  bif l.version == 0 && decide ((l.tokens.length : Int) > 0) then 1 else vTok none l.tokens
structure WFL (l : TListD) : Prop where
  v0 : 0 ≤ l.version
  v1 : l.version ≤ 2147483647
  max : l.tokens.length ≤ 128
  nil : l.version = 0 → l.tokens = []
  ok : ∀ t, t ∈ l.tokens → tokS t = 0
  sorted : l.tokens.Pairwise LtT
theorem vTok_iff : ∀ (l : List TokD) (p : Option TokD), vTok p l = 0 ↔ (∀ t, t ∈ l → tokS t = 0) ∧ l.Pairwise LtT ∧ (∀ q, p = some q → ∀ t, t ∈ l → LtT q t)
  | [], p => by simp [vTok]
  | t :: l, p => by
    have ih := vTok_iff l (some t)
    rw [vTok]
    cases h1 : tokS t == 0 with
    | false =>
      have h1' : tokS t ≠ 0 := by simpa using h1
      rw [Bool.not_false, cond_true]
      exact ⟨fun h => absurd h h1', fun h => absurd (h.1 t (by simp)) h1'⟩
    | true =>
      have h1' : tokS t = 0 := by simpa using h1
      rw [Bool.not_true, cond_false]
      cases h2 : badO p t with
      | true =>
        rw [cond_true]
        refine ⟨fun h => absurd h (by decide), fun h => ?_⟩
        cases p with
        | none => cases h2
        | some q =>
          have := h.2.2 q rfl t (by simp)
          unfold LtT at this
          simp only [badO, this] at h2
          cases h2
      | false =>
        rw [cond_false, ih]
        constructor
        · rintro ⟨g1, g2, g3⟩
          have g3' := g3 t rfl
          refine ⟨fun x hx => ?_, List.pairwise_cons.2 ⟨g3', g2⟩, fun q hq x hx => ?_⟩
          · rcases List.mem_cons.1 hx with rfl | hx
            · exact h1'
            · exact g1 x hx
          · subst hq
            have hqt : LtT q t := by unfold LtT; simpa [badO] using h2
            rcases List.mem_cons.1 hx with rfl | hx
            · exact hqt
            · exact lt_trans hqt (g3' x hx)
        · rintro ⟨g1, g2, _⟩
          rw [List.pairwise_cons] at g2
          exact ⟨fun x hx => g1 x (by simp [hx]), g2.2, fun q hq x hx => by cases hq; exact g2.1 x hx⟩
theorem valid_iff (l : TListD) : validL l = 0 ↔ WFL l := by
  unfold validL
  cases h1 : decide (l.version < 0) || decide (l.version > 2147483647) with
  | true =>
    rw [cond_true]
    refine ⟨fun h => absurd h (by decide), fun h => ?_⟩
    have := h.v0
    have := h.v1
    simp at h1; omega
  | false =>
    rw [cond_false]
    have h1' : 0 ≤ l.version ∧ l.version ≤ 2147483647 := by simpa using h1
    cases h2 : decide ((l.tokens.length : Int) > 128) with
    | true =>
      rw [cond_true]
      refine ⟨fun h => absurd h (by decide), fun h => ?_⟩
      have := h.max
      simp at h2; omega
    | false =>
      rw [cond_false]
      have h2' : l.tokens.length ≤ 128 := by simp at h2; omega
      cases h3 : l.version == 0 && decide ((l.tokens.length : Int) > 0) with
      | true =>
        rw [cond_true]
        refine ⟨fun h => absurd h (by decide), fun h => ?_⟩
        simp only [Bool.and_eq_true, beq_iff_eq, decide_eq_true_eq] at h3
        have := h.nil h3.1
        rw [this] at h3
        simp at h3
      | false =>
        rw [cond_false, vTok_iff]
        constructor
        · rintro ⟨g1, g2, _⟩
          refine ⟨h1'.1, h1'.2, h2', fun h => ?_, g1, g2⟩
          simp [h] at h3
          exact h3
        · intro h
          exact ⟨h.ok, h.sorted, fun q hq => by cases hq⟩
theorem tok_size {t : TokD} (h : tokS t = 0) : okName t.id = true := by
  unfold tokS at h
  cases hn : okName t.id with
  | true => rfl
  | false => rw [hn, Bool.not_false, cond_true] at h; cases h
end Go.Proofs.Ytlkejejgaenjcaa
