/- Records: plain facts about the order of events. -/
import Derived.Test.YtoccifhckpjfaaaRec37e
namespace Go.Proofs.Ytoccifhckpjfaaa
set_option linter.all false
open Go.Idl
set_option maxHeartbeats 4000000
set_option maxRecDepth 100000
def DedR (out xs : List EvD) : Option (List EvD) → Prop
  | some D => D.Pairwise (fun a b => a.seq < b.seq) ∧ ∀ x, x ∈ D ↔ x ∈ out ∨ x ∈ xs
  | none => ∃ x y, (x ∈ out ∨ x ∈ xs) ∧ y ∈ xs ∧ x.seq = y.seq ∧ x ≠ y
theorem ded_gen : ∀ (xs out : List EvD) (p : Option EvD), out.Pairwise (fun a b => a.seq < b.seq) → p = out.getLast? → (∀ y, p = some y → ∀ x, x ∈ xs → y.seq ≤ x.seq) → xs.Pairwise (fun a b => a.seq ≤ b.seq) → DedR out xs (dedE out p xs)
  | [], out, p, h1, _, _, _ => by
    have : dedE out p [] = some out := by cases p <;> rfl
    rw [this]
    exact ⟨h1, fun x => by simp⟩
  | x :: l, out, none, h1, h2, h3, h4 => by
    have h0 : out = [] := List.getLast?_eq_none_iff.1 h2.symm
    subst h0
    obtain ⟨h4a, h4b⟩ := List.pairwise_cons.1 h4
    have := ded_gen l [x] (some x) (by simp) rfl (fun y hy z hz => by cases hy; exact h4a z hz) h4b
    show DedR [] (x :: l) (dedE ([] ++ [x]) (some x) l)
    rw [List.nil_append]
    generalize dedE [x] (some x) l = r at *
    cases r with
    | some D => exact ⟨this.1, fun z => by rw [this.2 z]; simp⟩
    | none =>
      obtain ⟨a, b, g1, g2, g3, g4⟩ := this
      exact ⟨a, b, .inr (by rcases g1 with g | g; simp at g; simp [g]; exact List.mem_cons_of_mem _ g), List.mem_cons_of_mem _ g2, g3, g4⟩
  | x :: l, out, some y, h1, h2, h3, h4 => by
    obtain ⟨h4a, h4b⟩ := List.pairwise_cons.1 h4
    have hyo : y ∈ out := List.mem_of_getLast? h2.symm
    have hyx := h3 y rfl x (by simp)
    have hmax : ∀ z, z ∈ out → z.seq ≤ y.seq := by
      obtain ⟨P, hP⟩ := List.getLast?_eq_some_iff.1 h2.symm
      intro z hz
      rw [hP] at hz h1
      rcases List.mem_append.1 hz with hz | hz
      · have := (List.pairwise_append.1 h1).2.2 z hz y (by simp); omega
      · rw [List.mem_singleton] at hz; rw [hz]; exact Int.le_refl _
    show DedR out (x :: l) (bif y.seq != x.seq then dedE (out ++ [x]) (some x) l else bif sameE y x then dedE out (some y) l else none)
    cases hs : (y.seq != x.seq) with
    | true =>
      rw [cond_true]
      have hne : y.seq ≠ x.seq := by simpa using hs
      have := ded_gen l (out ++ [x]) (some x) (List.pairwise_append.2 ⟨h1, by simp, fun a ha b hb => by rw [List.mem_singleton] at hb; subst hb; have := hmax a ha; omega⟩) (by simp) (fun z hz w hw => by cases hz; exact h4a w hw) h4b
      generalize dedE (out ++ [x]) (some x) l = r at *
      cases r with
      | some D => exact ⟨this.1, fun z => by rw [this.2 z]; simp [or_assoc]⟩
      | none =>
        obtain ⟨a, b, g1, g2, g3, g4⟩ := this
        refine ⟨a, b, ?_, List.mem_cons_of_mem _ g2, g3, g4⟩
        rcases g1 with g | g
        · rcases List.mem_append.1 g with g | g
          · exact .inl g
          · rw [List.mem_singleton] at g; exact .inr (by simp [g])
        · exact .inr (List.mem_cons_of_mem _ g)
    | false =>
      rw [cond_false]
      have he : y.seq = x.seq := by simpa using hs
      cases hm : sameE y x with
      | true =>
        rw [cond_true]
        have hxy : y = x := sameE_iff.1 hm
        have := ded_gen l out (some y) h1 h2 (fun z hz w hw => h3 z hz w (List.mem_cons_of_mem _ hw)) h4b
        generalize dedE out (some y) l = r at *
        cases r with
        | some D =>
          refine ⟨this.1, fun z => ?_⟩
          rw [this.2 z, List.mem_cons]
          constructor
          · rintro (g | g)
            · exact .inl g
            · exact .inr (.inr g)
          · rintro (g | g | g)
            · exact .inl g
            · exact .inl (by rw [g, ← hxy]; exact hyo)
            · exact .inr g
        | none =>
          obtain ⟨a, b, g1, g2, g3, g4⟩ := this
          exact ⟨a, b, g1.imp id (List.mem_cons_of_mem _), List.mem_cons_of_mem _ g2, g3, g4⟩
      | false =>
        rw [cond_false]
        exact ⟨y, x, .inl hyo, by simp, he, fun h => by rw [sameE_iff.2 h] at hm; cases hm⟩
theorem ded_sort (l : List EvD) : DedR [] l (dedE [] none (sortS l)) := by
  have := ded_gen (sortS l) [] none (by simp) rfl (fun y hy => by cases hy) (sortS_sorted l)
  have hm := fun x => (sortS_perm l).mem_iff (a := x)
  generalize dedE [] none (sortS l) = r at *
  cases r with
  | some D => exact ⟨this.1, fun x => by rw [this.2 x, hm x]⟩
  | none =>
    obtain ⟨a, b, g1, g2, g3, g4⟩ := this
    exact ⟨a, b, g1.imp id (fun h => (hm a).1 h), (hm b).1 g2, g3, g4⟩
theorem srt_eq {D D' : List EvD} (h1 : D.Pairwise (fun a b => a.seq < b.seq)) (h2 : D'.Pairwise (fun a b => a.seq < b.seq)) (h : ∀ x, x ∈ D ↔ x ∈ D') : D = D' := by
  have n1 : D.Nodup := h1.imp (fun hab hEq => by rw [hEq] at hab; omega)
  have n2 : D'.Nodup := h2.imp (fun hab hEq => by rw [hEq] at hab; omega)
  exact ((List.perm_ext_iff_of_nodup n1 n2).2 h).eq_of_pairwise (fun a b _ _ g1 g2 => by omega) h1 h2
theorem srt_inj {D : List EvD} (h1 : D.Pairwise (fun a b => a.seq < b.seq)) {x y : EvD} (hx : x ∈ D) (hy : y ∈ D) (h : x.seq = y.seq) : x = y := by
  obtain ⟨i, hi⟩ := List.getElem?_of_mem hx
  obtain ⟨j, hj⟩ := List.getElem?_of_mem hy
  obtain ⟨a1, a2⟩ := List.getElem?_eq_some_iff.1 hi
  obtain ⟨b1, b2⟩ := List.getElem?_eq_some_iff.1 hj
  rcases Nat.lt_trichotomy i j with g | g | g
  · have := List.pairwise_iff_getElem.1 h1 i j a1 b1 g
    rw [a2, b2] at this; omega
  · subst g; rw [hi] at hj; cases hj; rfl
  · have := List.pairwise_iff_getElem.1 h1 j i b1 a1 g
    rw [a2, b2] at this; omega
theorem badE_of {l : List EvD} (h : ∀ x, x ∈ l → evS x = 0) : badE l = 0 := by
  induction l with
  | nil => rfl
  | cons x l ih =>
    rw [badE, h x (by simp)]
    exact ih fun y hy => h y (List.mem_cons_of_mem _ hy)
def keysB (l : List EvD) : Bool := l.all fun x => (l.head?.map (keyEq x)).getD true
theorem keyEq_iff {a b : EvD} : keyEq a b = true ↔ a.station = b.station ∧ a.txn = b.txn := by simp [keyEq]
def sameK (a b : EvD) : Prop := a.station = b.station ∧ a.txn = b.txn
theorem keysB_iff {l : List EvD} : keysB l = true ↔ ∀ x y, x ∈ l → y ∈ l → sameK x y := by
  unfold keysB
  cases l with
  | nil => simp
  | cons z l =>
    rw [List.all_eq_true]
    constructor
    · intro h x y hx hy
      have g1 : keyEq x z = true := h x hx
      have g2 : keyEq y z = true := h y hy
      rw [keyEq_iff] at g1 g2
      exact ⟨g1.1.trans g2.1.symm, g1.2.trans g2.2.symm⟩
    · intro h x hx
      show keyEq x z = true
      rw [keyEq_iff]
      exact h x z hx (by simp)
theorem orderS_def (l : List EvD) : orderS l = bif badE l != 0 then ([], badE l) else bif keysB l then (match dedE [] none (sortS l) with
  | some es => (es, 0)
  | none => ([], 23)) else ([], 23) := rfl
theorem sameRec_self (r : RecD) : sameRec r r = true := by
  have : eqR r.rds r.rds = true := eqR_iff.2 rfl
  simp [sameRec, this]
theorem makeE_rds (es : List EvD) (m : Int) : (makeE es m).1.rds.length ≤ 1024 := by
  unfold makeE
  have hz : zeroR.rds.length ≤ 1024 := by decide
  cases !complS es <;> cases badM (hdE es).conn es <;> try exact hz
  cases hm : ((mrgE [] es).2 != 0) <;> try exact hz
  cases rdOff (hdE es) (ltE es) (mrgE [] es).1 <;> cases (totS (mrgE [] es).1 m).2 != 0 <;> cases decide ((totS (mrgE [] es).1 m).1 > 1099511627776) <;> try exact hz
  exact mrgE_len (by simpa using hm) (by decide)
theorem makeS_rds (l : List EvD) (m : Int) : (makeS l m).1.rds.length ≤ 1024 := by
  unfold makeS
  have hz : zeroR.rds.length ≤ 1024 := by decide
  cases decide (l.length = 0) <;> try exact hz
  cases (orderS l).2 != 0 <;> try exact hz
  exact makeE_rds _ _
end Go.Proofs.Ytoccifhckpjfaaa
