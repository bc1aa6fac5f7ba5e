/- Parts of a list are merged to it. -/
import Derived.Test.YtdidgmhkgcblhaaFin20
namespace Go.Proofs.Ytdidgmhkgcblhaa
set_option linter.all false
open Go.Idl
set_option maxHeartbeats 4000000
set_option maxRecDepth 100000
attribute [local go_sem] Try.underlying3 Try.underlying5 Try.underlying43 Try.underlying44 Try.underlying9 Try.underlying4
inductive Cov : List Rdg → List Rdg → List Rdg → Prop
  | nil : Cov [] [] []
  | left (x : Rdg) {p q l : List Rdg} (h : Cov p q l) : Cov (x :: p) q (x :: l)
  | right (x : Rdg) {p q l : List Rdg} (h : Cov p q l) : Cov p (x :: q) (x :: l)
  | both (x : Rdg) {p q l : List Rdg} (h : Cov p q l) : Cov (x :: p) (x :: q) (x :: l)
theorem Cov.mem {p q l : List Rdg} (h : Cov p q l) : (∀ x, x ∈ p → x ∈ l) ∧ ∀ x, x ∈ q → x ∈ l := by
  induction h with
  | nil => simp
  | left x _ ih => exact ⟨fun y hy => by rcases List.mem_cons.1 hy with rfl | hy; simp; exact List.mem_cons_of_mem _ (ih.1 y hy), fun y hy => List.mem_cons_of_mem _ (ih.2 y hy)⟩
  | right x _ ih => exact ⟨fun y hy => List.mem_cons_of_mem _ (ih.1 y hy), fun y hy => by rcases List.mem_cons.1 hy with rfl | hy; simp; exact List.mem_cons_of_mem _ (ih.2 y hy)⟩
  | both x _ ih => exact ⟨fun y hy => by rcases List.mem_cons.1 hy with rfl | hy; simp; exact List.mem_cons_of_mem _ (ih.1 y hy), fun y hy => by rcases List.mem_cons.1 hy with rfl | hy; simp; exact List.mem_cons_of_mem _ (ih.2 y hy)⟩
theorem asc_lt : ∀ {l : List Rdg} {x : Rdg}, asc (x :: l) = true → asc l = true ∧ ∀ y, y ∈ l → x.time < y.time
  | [], x, _ => ⟨rfl, by simp⟩
  | z :: l, x, h => by
    simp only [asc, Bool.and_eq_true, decide_eq_true_eq] at h
    obtain ⟨_, h2⟩ := asc_lt h.2
    refine ⟨h.2, fun y hy => ?_⟩
    rcases List.mem_cons.1 hy with rfl | hy
    · exact h.1
    · have := h2 y hy; have := h.1; omega
theorem mrg_cov {p q l : List Rdg} (h : Cov p q l) (ha : asc l = true) : mrgL p q = some l := by
  induction h with
  | nil => simp [mrgL]
  | @left x p q l hc ih =>
    obtain ⟨h1, h2⟩ := asc_lt ha
    have i1 := ih h1
    cases q with
    | nil => rw [mrgL_nil] at i1 ⊢; cases i1; rfl
    | cons y q =>
      have hy := h2 y (hc.mem.2 y (by simp))
      have d : decide (x.time < y.time) = true := by simpa using hy
      rw [mrgL, d, cond_true, i1]; rfl
  | @right x p q l hc ih =>
    obtain ⟨h1, h2⟩ := asc_lt ha
    have i1 := ih h1
    cases p with
    | nil => simp only [mrgL] at i1 ⊢; cases i1; rfl
    | cons y p =>
      have hy := h2 y (hc.mem.1 y (by simp))
      have d : decide (y.time < x.time) = false := by simp; omega
      have d' : decide (y.time > x.time) = true := by simp; omega
      rw [mrgL, d, d', cond_false, cond_true, i1]; rfl
  | @both x p q l hc ih =>
    obtain ⟨h1, h2⟩ := asc_lt ha
    have i1 := ih h1
    have d : decide (x.time < x.time) = false := by simp
    have d'' : (!(x.reg == x.reg)) = false := by simp
    rw [mrgL, d, d'', cond_false, cond_false, cond_false, i1]; rfl
def pT (f : Nat → Bool) (k : Nat) : List Rdg → List Rdg
  | [] => []
  | x :: l => bif f k then x :: pT f (k + 1) l else pT f (k + 1) l
def nf (f : Nat → Bool) (k : Nat) : Bool := !f k
theorem pT_app (f : Nat → Bool) : ∀ (l : List Rdg) (k : Nat) (x : Rdg), pT f k (l ++ [x]) = pT f k l ++ (bif f (k + l.length) then [x] else [])
  | [], k, x => by simp only [List.nil_append, pT, List.length_nil, Nat.add_zero]
  | y :: l, k, x => by
    have e : k + 1 + l.length = k + (y :: l).length := by simp; omega
    simp only [List.cons_append, pT, pT_app f l (k + 1) x, e]
    cases f k <;> simp
theorem pT_len (f : Nat → Bool) : ∀ (l : List Rdg) (k : Nat), (pT f k l).length ≤ l.length
  | [], _ => Nat.le_refl _
  | x :: l, k => by
    have := pT_len f l (k + 1)
    simp only [pT]
    cases f k <;> simp <;> omega
theorem cov1 (f : Nat → Bool) : ∀ (l : List Rdg) (k : Nat), Cov l (pT f k l) l
  | [], _ => .nil
  | x :: l, k => by
    simp only [pT]
    cases f k
    · exact .left x (cov1 f l (k + 1))
    · exact .both x (cov1 f l (k + 1))
theorem cov2 (f : Nat → Bool) : ∀ (l : List Rdg) (k : Nat), Cov (pT f k l) (pT (nf f) k l) l
  | [], _ => .nil
  | x :: l, k => by
    simp only [pT, nf]
    cases f k
    · exact .right x (cov2 f l (k + 1))
    · exact .left x (cov2 f l (k + 1))
theorem cov3 (f : Nat → Bool) : ∀ (l : List Rdg) (k : Nat), Cov (pT f k l) l l
  | [], _ => .nil
  | x :: l, k => by
    simp only [pT]
    cases f k
    · exact .right x (cov3 f l (k + 1))
    · exact .both x (cov3 f l (k + 1))
theorem asc_cov {p q l : List Rdg} (h : Cov p q l) (ha : asc l = true) : asc p = true ∧ asc q = true := by
  induction h with
  | nil => exact ⟨rfl, rfl⟩
  | @left x p q l hc ih =>
    obtain ⟨h1, h2⟩ := asc_lt ha
    refine ⟨?_, (ih h1).2⟩
    cases p with
    | nil => rfl
    | cons y p => simp only [asc, Bool.and_eq_true, decide_eq_true_eq]; exact ⟨h2 y (hc.mem.1 y (by simp)), (ih h1).1⟩
  | @right x p q l hc ih =>
    obtain ⟨h1, h2⟩ := asc_lt ha
    refine ⟨(ih h1).1, ?_⟩
    cases q with
    | nil => rfl
    | cons y q => simp only [asc, Bool.and_eq_true, decide_eq_true_eq]; exact ⟨h2 y (hc.mem.2 y (by simp)), (ih h1).2⟩
  | @both x p q l hc ih =>
    obtain ⟨h1, h2⟩ := asc_lt ha
    refine ⟨?_, ?_⟩
    · cases p with
      | nil => rfl
      | cons y p => simp only [asc, Bool.and_eq_true, decide_eq_true_eq]; exact ⟨h2 y (hc.mem.1 y (by simp)), (ih h1).1⟩
    · cases q with
      | nil => rfl
      | cons y q => simp only [asc, Bool.and_eq_true, decide_eq_true_eq]; exact ⟨h2 y (hc.mem.2 y (by simp)), (ih h1).2⟩
theorem mrgS_cov {p q l : List Rdg} (h : Cov p q l) (ha : asc l = true) (hl : l.length ≤ 1024) : mrgS p q = (l, 0) := by
  obtain ⟨a1, a2⟩ := asc_cov h ha
  have h3 : decide (l.length > 1024) = false := by simp; omega
  simp only [mrgS, a1, a2, mrg_cov h ha, h3, Bool.not_true, Bool.or_self, cond_false]
def bitF (n : Int) (k : Nat) : Bool := (n.fdiv (2 ^ min k 64)).tmod 2 == 1
theorem con8 {Φ : Specs} (hg : Idl.Good Try.prog Φ) (h9 : Φ 9 = some Aw) (h23 : Φ 23 = some SMrg) (h24 : Φ 24 = some SEqfR) (h22 : Φ 22 = some SAsc) : Contract Try.prog 8 (FT fun (_ : List Rdg × KInt .u64 × Unit) => some true) := by
  refine conT hg k8 ic8 (by decide) fun C t r h => ?_
  obtain ⟨l, F, u⟩ := t
  cases h
  have f1 : 0 ≤ F.1 := F.2.1
  have f2 : F.1 ≤ 18446744073709551615 := F.2.2
  by_cases h40 : l.length > 40
  · have d1 : decide ((l.length : Int) > 40) = true := by simp; omega
    simp +contextual only [go_sem, ↓reduceIte, Nat.reduceEqDiff, Nat.reduceAdd, Nat.reduceLeDiff, Nat.reduceLT, reduceCtorEq, c8, k8, h9, d1, List.length_map]
  have d1 : decide ((l.length : Int) > 40) = false := by simp; omega
  have hle : l.length ≤ 1000000000 := by omega
  cases ha : asc l with
  | false => simp +contextual only [go_sem, ↓reduceIte, Nat.reduceEqDiff, Nat.reduceAdd, Nat.reduceLeDiff, Nat.reduceLT, reduceCtorEq, c8, k8, h9, h22, hle, ha, d1, List.length_map]
  | true =>
    simp +contextual only [go_sem, ↓reduceIte, Nat.reduceEqDiff, Nat.reduceAdd, Nat.reduceLeDiff, Nat.reduceLT, reduceCtorEq, c8, k8, h9, h22, hle, ha, d1, List.length_map]
    refine TriI.loopL hg k8 l (fun i (a : List Rdg) => ⟨slotsL [(0, Cod.enc l), (1, .sc (.int .u64 F.1)), (5, .own 0 0 (pT (bitF F.1) 0 a).length), (6, .own 1 0 (pT (nf (bitF F.1)) 0 a).length), (7, .sc (.int .i64 i))], objsL [.live 2 ((pT (bitF F.1) 0 a).map Cod.enc) true, .live 2 ((pT (nf (bitF F.1)) 0 a).map Cod.enc) true], 2⟩)
      (fun xs a => l = a ++ xs) [] (.ren [none, none] rfl rfl 0 ?_) rfl ?_ ?_
    · simp +contextual only [go_sem, ↓reduceIte, Nat.reduceEqDiff, Nat.reduceAdd, Nat.reduceLeDiff, Nat.reduceLT, reduceCtorEq, pT, List.map_nil, List.length_nil]
      rfl
    · intro a hinv
      rw [List.append_nil] at hinv
      subst hinv
      have hp1 := pT_len (bitF F.1) l 0
      have hp2 := pT_len (nf (bitF F.1)) l 0
      have m1 := mrgS_cov (cov1 (bitF F.1) l 0) ha (by omega)
      have m2 := mrgS_cov (cov2 (bitF F.1) l 0) ha (by omega)
      have m3 := mrgS_cov (cov3 (nf (bitF F.1)) l 0) ha (by omega)
      generalize pT (bitF F.1) 0 l = p at hp1 m1 m2
      generalize pT (nf (bitF F.1)) 0 l = q at hp2 m2 m3
      have c1 : l.length ≤ 1000000 := by omega
      have c2 : p.length ≤ 1000000 := by omega
      have c3 : q.length ≤ 1000000 := by omega
      have t1 : (p.map (Cod.enc : Rdg → V)).take p.length = p.map Cod.enc := List.take_of_length_le (by simp)
      have t2 : (q.map (Cod.enc : Rdg → V)).take q.length = q.map Cod.enc := List.take_of_length_le (by simp)
      simp +contextual only [go_sem, ↓reduceIte, Nat.reduceEqDiff, Nat.reduceAdd, Nat.reduceLeDiff, Nat.reduceLT, reduceCtorEq, k8, Int.lt_irrefl, decide_false, List.length_map, h23, h24, h9, c1, c2, c3, t1, t2, m1, m2, m3, eqBy_same fR_iff, isF_rdgs, decL_enc Cod.dec_enc, and_self, Nat.zero_add, Nat.le_refl, List.drop_zero, true_and, and_true, beq_self_eq_true]
    · intro i a x xs hd hlt hx hinv
      have hw := wrap_nat hlt (by omega)
      have hi := u_drop hd hinv
      have hwu : IntKind.u64.wrap (i : Int) = i := by simp [IntKind.wrap, IntKind.bits, IntKind.signed]; omega
      have hn0 : ¬ (i : Int) < 0 := by omega
      have n2 : (2 : Int) ≠ 0 := by decide
      have n2' : ¬ (2 : Int) = 0 := n2
      have hal : a.length ≤ 40 := by have := congrArg List.length hinv; simp at this; omega
      have hp1 := pT_len (bitF F.1) a 0
      have hp2 := pT_len (nf (bitF F.1)) a 0
      have a1 := pT_app (bitF F.1) a 0 x
      have a2 := pT_app (nf (bitF F.1)) a 0 x
      rw [Nat.zero_add, ← hi] at a1 a2
      have b1 : ((pT (bitF F.1) 0 a).length + 1) * 16 ≤ 68719476736 := by omega
      have b2 : (pT (bitF F.1) 0 a).length + 1 ≤ 4294967296 := by omega
      have b3 : ((pT (nf (bitF F.1)) 0 a).length + 1) * 16 ≤ 68719476736 := by omega
      have b4 : (pT (nf (bitF F.1)) 0 a).length + 1 ≤ 4294967296 := by omega
      have hbit : ((F.1.fdiv (2 ^ min i 64)).tmod 2 == 1) = bitF F.1 i := rfl
      simp +contextual only [go_sem, ↓reduceIte, Nat.reduceEqDiff, Nat.reduceAdd, Nat.reduceLeDiff, Nat.reduceLT, reduceCtorEq, k8, lt_dec hlt, hx, hw, hwu, hn0, not_false_eq_true, n2, n2', ne_eq, hbit, b1, b2, b3, b4, List.length_map, List.getElem?_map, Option.map_some, Int.natCast_nonneg, Int.toNat_natCast, Nat.zero_add, List.drop_zero, true_and, and_true, okE]
      refine ⟨fun hb => ⟨a ++ [x], by rw [hinv]; simp, .ren [some 3, some 1] rfl rfl 0 ?_⟩, fun hb => ⟨a ++ [x], by rw [hinv]; simp, .ren [some 0, some 3] rfl rfl 0 ?_⟩⟩
      · have e1 : bitF F.1 i = true := hb
        have e2 : nf (bitF F.1) i = false := by rw [nf, e1]; rfl
        rw [e1, cond_true] at a1
        rw [e2, cond_false, List.append_nil] at a2
        simp +contextual only [go_sem, ↓reduceIte, Nat.reduceEqDiff, Nat.reduceAdd, Nat.reduceLeDiff, Nat.reduceLT, reduceCtorEq, a1, a2, List.map_append, List.map_cons, List.map_nil, List.length_append, List.length_cons, List.length_nil, List.all_append, low_rdgs, Nat.zero_add]
      · have e1 : bitF F.1 i = false := hb
        have e2 : nf (bitF F.1) i = true := by rw [nf, e1]; rfl
        rw [e1, cond_false, List.append_nil] at a1
        rw [e2, cond_true] at a2
        simp +contextual only [go_sem, ↓reduceIte, Nat.reduceEqDiff, Nat.reduceAdd, Nat.reduceLeDiff, Nat.reduceLT, reduceCtorEq, a1, a2, List.map_append, List.map_cons, List.map_nil, List.length_append, List.length_cons, List.length_nil, List.all_append, low_rdgs, Nat.zero_add]
end Go.Proofs.Ytdidgmhkgcblhaa
