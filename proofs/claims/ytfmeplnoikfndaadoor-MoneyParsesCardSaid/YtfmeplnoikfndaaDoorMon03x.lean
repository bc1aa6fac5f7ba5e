/- Amounts: the laws on products, sums and the nearest quotient. -/
import Derived.Test.YtfmeplnoikfndaaDoorMon03h
import Derived.Test.YtfmeplnoikfndaaDoorMon03l
namespace Go.Proofs.YtfmeplnoikfndaaDoor
set_option linter.all false
open Go.Idl Go.Lib
set_option linter.all false
set_option maxHeartbeats 16000000
set_option maxRecDepth 100000
attribute [local go_sem] Tryd.underlying3 Tryd.underlying45 Tryd.underlying74 Tryd.underlying5 Tryd.underlying9 Tryd.underlying4 Tryd.underlying22
abbrev Aw : List V → Option V := FT fun (_ : Unit) => some true
theorem ne_self (x : Int) : (x != x) = false := by simp
theorem eq_self (x : Int) : (x == x) = true := by simp
@[ext] structure ProdD where
  amount : Int
  num : Int
  den : Int
  mode : Int
def ProdD.dec : V → Option ProdD
  | .agg [c0, c1, c2, c3] => bO (Cod.dec c0 : Option (Int)) fun a0 => bO (Cod.dec c1 : Option (Int)) fun a1 => bO (Cod.dec c2 : Option (Int)) fun a2 => bO (Cod.dec c3 : Option (Int)) fun a3 => some (.mk a0 a1 a2 a3)
  | _ => none
instance : Cod ProdD where
  enc := fun d => .agg [Cod.enc d.amount, Cod.enc d.num, Cod.enc d.den, Cod.enc d.mode]
  dec := ProdD.dec
  sz := 4
  len := fun _ => rfl
  dec_enc := fun d => by
    simp only [ProdD.dec, Cod.dec_enc, bO_some]
  le := fun v a h => by
    unfold ProdD.dec at h
    split at h
    · simp only [bO_eq] at h
      obtain ⟨a0, h0, a1, h1, a2, h2, a3, h3, he⟩ := h
      cases he
      exact .agg (.cons (Cod.le _ _ h0).le (.cons (Cod.le _ _ h1).le (.cons (Cod.le _ _ h2).le (.cons (Cod.le _ _ h3).le .nil))))
    · cases h
@[go_sem ↓] theorem ProdD.enc_eq (d : ProdD) : Cod.enc d = .agg [Cod.enc d.amount, Cod.enc d.num, Cod.enc d.den, Cod.enc d.mode] := rfl
@[go_sem ↓] theorem ProdD.dec_eq (c0 c1 c2 c3 : V) : (Cod.dec (.agg [c0, c1, c2, c3]) : Option ProdD) = bO (Cod.dec c0 : Option (Int)) fun a0 => bO (Cod.dec c1 : Option (Int)) fun a1 => bO (Cod.dec c2 : Option (Int)) fun a2 => bO (Cod.dec c3 : Option (Int)) fun a3 => some (.mk a0 a1 a2 a3) := rfl
def ProdD.ok (d : ProdD) : Prop := okI d.amount ∧ okI d.num ∧ okI d.den ∧ okI d.mode
@[go_sem] theorem ProdD.eta (d : ProdD) : ProdD.mk d.amount d.num d.den d.mode = d := rfl
@[go_sem ↓] theorem ProdD.sz_eq : Cod.sz ProdD = 4 := rfl
theorem con5 {Φ : Specs} (hg : Idl.Good Tryd.prog Φ) (h14 : Φ 14 = some SScale) (h15 : Φ 15 = some SScale) (h13 : Φ 13 = some Aw) :
    Contract Tryd.prog 5 (FT fun (t : ProdD × Unit) => if inI t.1.amount ∧ inI t.1.num ∧ inI t.1.den then some true else none) := by
  refine conT hg k5 ic5 (by decide) fun C t r h => ?_
  obtain ⟨⟨a, n, d, m⟩, u⟩ := t
  dsimp only at h
  split at h
  case isFalse => cases h
  rename_i hn
  cases h
  obtain ⟨h1, h2, h3⟩ := hn
  by_cases hd : d < 1
  · have t1 : decide (d < 1) = true := decide_eq_true hd
    simp +contextual only [go_sem, ↓reduceIte, Nat.reduceEqDiff, Nat.reduceAdd, Nat.reduceLeDiff, Nat.reduceLT, reduceCtorEq, c5, k5, h14, h15, h13, h1, h2, h3, and_self, eq_self, ne_self, t1]
    try rfl
  have t1 : decide (d < 1) = false := decide_eq_false hd
  by_cases hm : m < 1
  · have t2 : decide (m < 1) = true := decide_eq_true hm
    simp +contextual only [go_sem, ↓reduceIte, Nat.reduceEqDiff, Nat.reduceAdd, Nat.reduceLeDiff, Nat.reduceLT, reduceCtorEq, c5, k5, h14, h15, h13, h1, h2, h3, and_self, eq_self, ne_self, t1, t2]
    try rfl
  have t2 : decide (m < 1) = false := decide_eq_false hm
  by_cases hm4 : m > 4
  · have t3 : decide (m > 4) = true := decide_eq_true hm4
    simp +contextual only [go_sem, ↓reduceIte, Nat.reduceEqDiff, Nat.reduceAdd, Nat.reduceLeDiff, Nat.reduceLT, reduceCtorEq, c5, k5, h14, h15, h13, h1, h2, h3, and_self, eq_self, ne_self, t1, t2, t3]
    try rfl
  have t3 : decide (m > 4) = false := decide_eq_false hm4
  have e := scale_same (a := a) (d := d) (m := m) (by omega) (by omega) h1.1 h1.2
  simp +contextual only [go_sem, ↓reduceIte, Nat.reduceEqDiff, Nat.reduceAdd, Nat.reduceLeDiff, Nat.reduceLT, reduceCtorEq, c5, k5, h14, h15, h13, h1, h2, h3, and_self, eq_self, ne_self, t1, t2, t3, e]
  try rfl
theorem okE_i (z : Int) : okE 1 (.sc (.int .i64 z)) = true := rfl
section
variable {P : Program} {ρ : Operand → V} {o : Oper} {isB : Bool} {x : Int}
@[go_sem ↓] theorem i_rem4 : evBin P ρ o .rem isB (.sc (.int .i64 x)) (.sc (.int .i64 4)) = some (.sc (.int .i64 (x.tmod 4)), []) := bin_rem ρ o isB .i64 _ _ (by decide)
end
theorem mode_ok (p : KInt .u8) : IntKind.i64.wrap (1 + (IntKind.i64.wrap p.val).tmod 4) = 1 + p.val % 4 := by
  obtain ⟨v, h1, h2⟩ := p
  have h1' : 0 ≤ v := h1
  have h2' : v ≤ 255 := h2
  rw [IntKind.wrap_i64, IntKind.wrap_i64]
  show _ = 1 + v % 4
  rw [show (v + 9223372036854775808) % 18446744073709551616 - 9223372036854775808 = v by omega, Int.tmod_eq_emod_of_nonneg h1']
  omega
theorem con6 {Φ : Specs} (hg : Idl.Good Tryd.prog Φ) (h16 : Φ 16 = some SSum) (h17 : Φ 17 = some SSum) (h13 : Φ 13 = some Aw) :
    Contract Tryd.prog 6 (FT fun (t : List Int × Unit) => if t.1.length ≤ 9223372036854775807 ∧ ∀ n, n ∈ t.1 → inI n then some true else none) := by
  refine conT hg k6 ic6 (by decide) fun C t r h => ?_
  obtain ⟨l, u⟩ := t
  dsimp only at h
  split at h
  case isFalse => cases h
  rename_i hn
  cases h
  obtain ⟨h1, h2⟩ := hn
  by_cases hl : 64 < l.length
  · have t1 : decide ((l.length : Int) > 64) = true := by simp; omega
    simp +contextual only [go_sem, ↓reduceIte, Nat.reduceEqDiff, Nat.reduceAdd, Nat.reduceLeDiff, Nat.reduceLT, reduceCtorEq, c6, k6, List.length_map, t1, h13]
    try rfl
  have t1 : decide ((l.length : Int) > 64) = false := by simp; omega
  have hn : (∀ n, n ∈ l → inI n) ∧ l.length ≤ 4611686018427387904 := ⟨h2, by omega⟩
  have w1 : IntKind.i64.wrap ((l.length : Int) - 1) = (l.length : Int) - 1 := by rw [IntKind.wrap_i64]; omega
  simp +contextual only [go_sem, ↓reduceIte, Nat.reduceEqDiff, Nat.reduceAdd, Nat.reduceLeDiff, Nat.reduceLT, reduceCtorEq, c6, k6, List.length_map, t1, h16, h17, h13, hn, and_self, eq_self, ne_self, w1]
  have hrl : l.reverse.length = l.length := List.length_reverse
  refine TriI.loopA hg k6 (fun i : Nat => ⟨slotsL [(0, Cod.enc l), (2, .sc (.bool false)), (3, .sc (.int .i64 (sumZ l).1)), (4, .sc (.int .i64 (sumZ l).2)), (7, .own 0 0 i), (8, .sc (.int .i64 ((l.length : Int) - 1 - (i : Int))))],
    objsL [.live 1 ((l.reverse.take i).map Cod.enc) true], 1⟩) (fun i => i ≤ l.length) (fun i => l.length - i) 0 (.ren [none] rfl rfl 0 ?_) (Nat.zero_le _) ?_
  · have w0 : (l.length : Int) - 1 - ((0 : Nat) : Int) = (l.length : Int) - 1 := by omega
    simp +contextual only [go_sem, ↓reduceIte, Nat.reduceEqDiff, Nat.reduceAdd, Nat.reduceLeDiff, Nat.reduceLT, reduceCtorEq, w0]
    try rfl
  · intro i hi
    rcases Nat.lt_or_ge i l.length with hlt | hge
    · have d1 : decide ((l.length : Int) - 1 - (i : Int) ≥ 0) = true := by simp; omega
      have g1 : (0 : Int) ≤ (l.length : Int) - 1 - (i : Int) := by omega
      have g2 : (l.length : Int) - 1 - (i : Int) < (l.length : Int) := by omega
      have g3 : ((l.length : Int) - 1 - (i : Int)).toNat = l.length - 1 - i := by omega
      have g4 : l[l.length - 1 - i]? = some (l[l.length - 1 - i]'(by omega)) := List.getElem?_eq_getElem _
      have g5 : (l.reverse.take i).map (Cod.enc : Int → V) ++ [.sc (.int .i64 (l[l.length - 1 - i]'(by omega)))] = (l.reverse.take (i + 1)).map Cod.enc := by
        rw [List.take_succ, List.getElem?_reverse (by omega), g4, List.map_append]; rfl
      have w2 : IntKind.i64.wrap ((l.length : Int) - 1 - (i : Int) - 1) = (l.length : Int) - 1 - ((i + 1 : Nat) : Int) := by rw [IntKind.wrap_i64]; omega
      have c1 : (i + 1) * 8 ≤ 68719476736 := by omega
      have c2 : i + 1 ≤ 4294967296 := by omega
      have c3 : ((l.reverse.take i).map (Cod.enc : Int → V)).length = i := by rw [List.length_map, List.length_take, hrl]; omega
      obtain ⟨x, hx⟩ : ∃ x, x = l[l.length - 1 - i]'(by omega) := ⟨_, rfl⟩
      rw [← hx] at g4 g5
      simp +contextual only [go_sem, ↓reduceIte, Nat.reduceEqDiff, Nat.reduceAdd, Nat.reduceLeDiff, Nat.reduceLT, reduceCtorEq, k6, d1, List.length_map, g1, g2, g3, List.getElem?_map, g4, Option.map_some, c1, c2, c3, okE_i, List.drop_zero, Nat.zero_add, w2]
      refine ⟨i + 1, by dsimp only; omega, by omega, .ren [some 2] rfl rfl 0 ?_⟩
      simp +contextual only [go_sem, ↓reduceIte, Nat.reduceEqDiff, Nat.reduceAdd, Nat.reduceLeDiff, Nat.reduceLT, reduceCtorEq, g5]
      exact List.all_eq_true.2 fun x hx => by
        obtain ⟨j, _, rfl⟩ := List.mem_map.1 hx
        rfl
    · have e : i = l.length := by omega
      subst e
      have d1 : decide ((l.length : Int) - 1 - (l.length : Int) ≥ 0) = false := by simp; omega
      have e1 : l.reverse.take l.length = l.reverse := List.take_of_length_le (by omega)
      have hn2 : (∀ n, n ∈ l.reverse → inI n) ∧ l.reverse.length ≤ 4611686018427387904 := ⟨fun n h => h2 n (List.mem_reverse.1 h), by omega⟩
      have c3 : (l.reverse.map (Cod.enc : Int → V)).length = l.length := by rw [List.length_map, hrl]
      have gF : (l.reverse.map (Cod.enc : Int → V)).all V.isF = true := List.all_eq_true.2 fun x hx => by
        obtain ⟨j, _, rfl⟩ := List.mem_map.1 hx
        rfl
      have gt : (l.reverse.map (Cod.enc : Int → V)).take l.length = l.reverse.map Cod.enc := List.take_of_length_le (by omega)
      have e2 := sum_rev l
      simp +contextual only [go_sem, ↓reduceIte, Nat.reduceEqDiff, Nat.reduceAdd, Nat.reduceLeDiff, Nat.reduceLT, reduceCtorEq, k6, d1, e1, c3, gF, gt, Nat.zero_add, Nat.le_refl, and_self, h16, h13, hn2, e2, eq_self]
theorem con4 {Φ : Specs} (hg : Idl.Good Tryd.prog Φ) (h11 : Φ 11 = some SRound) (h13 : Φ 13 = some Aw) :
    Contract Tryd.prog 4 (FT fun (t : Int × Int × KInt .u8 × Unit) => if inI t.1 ∧ inI t.2.1 then some true else none) := by
  refine conT hg k4 ic4 (by decide) fun C t r h => ?_
  obtain ⟨n, d, p, u⟩ := t
  dsimp only at h
  split at h
  case isFalse => cases h
  rename_i hn
  cases h
  obtain ⟨h1, h2⟩ := hn
  obtain ⟨M, hM⟩ : ∃ M, M = 1 + p.val % 4 := ⟨_, rfl⟩
  have hm := mode_ok p
  rw [← hM] at hm
  have hM1 : 1 ≤ M ∧ M ≤ 4 := by omega
  by_cases hd : d < 1
  · have t1 : decide (d < 1) = true := decide_eq_true hd
    simp +contextual only [go_sem, ↓reduceIte, Nat.reduceEqDiff, Nat.reduceAdd, Nat.reduceLeDiff, Nat.reduceLT, reduceCtorEq, c4, k4, h13, t1, hm]
    try rfl
  have t1 : decide (d < 1) = false := decide_eq_false hd
  obtain ⟨q, e, hq, he, e1, e2, e3, e4, e5, q1, q2, q3⟩ := near_ok (num := n) (den := d) (m := M) (by omega) hM1 h1.1 h1.2
  have hd1 : d ≤ 9223372036854775807 := h2.2
  have w1 : IntKind.i64.wrap (n - IntKind.i64.wrap (q * d)) = e := by
    rw [IntKind.wrap_i64, IntKind.wrap_i64]
    obtain ⟨z, hz⟩ : ∃ z, z = q * d := ⟨_, rfl⟩
    rw [← hz] at he ⊢
    omega
  have w2 : IntKind.i64.wrap (0 - d) = -d := by rw [IntKind.wrap_i64]; omega
  have t2 : decide (e ≤ -d) = false := by simp; omega
  have t3 : decide (e ≥ d) = false := by simp; omega
  have f2 : (decide (e < 0) && decide (M < 3) && decide (IntKind.i64.wrap (0 - e) > IntKind.i64.wrap (d + e)) || decide (e > 0) && decide (M < 3) && decide (e > IntKind.i64.wrap (d - e))) = false := by
    rw [Bool.eq_false_iff]; intro h
    simp only [Bool.or_eq_true, Bool.and_eq_true, decide_eq_true_eq, IntKind.wrap_i64] at h
    omega
  have f3 : (M == 3 && (decide (n ≥ 0) && decide (e < 0) || decide (n < 0) && decide (e > 0))) = false := by
    rw [Bool.eq_false_iff]; intro h
    simp only [Bool.or_eq_true, Bool.and_eq_true, decide_eq_true_eq, beq_iff_eq] at h
    omega
  have f4 : (M == 4 && (decide (n ≥ 0) && decide (e > 0) || decide (n < 0) && decide (e < 0))) = false := by
    rw [Bool.eq_false_iff]; intro h
    simp only [Bool.or_eq_true, Bool.and_eq_true, decide_eq_true_eq, beq_iff_eq] at h
    omega
  by_cases hmin : n = -9223372036854775808
  · have t6 : (n == -9223372036854775808) = true := by simp [hmin]
    simp +contextual only [go_sem, ↓reduceIte, Nat.reduceEqDiff, Nat.reduceAdd, Nat.reduceLeDiff, Nat.reduceLT, reduceCtorEq, c4, k4, h13, t1, h11, h1, h2, and_self, hm, hq, ne_self, w1, w2, t2, t3, f2, f3, f4, t6]
    try rfl
  · have t6 : (n == -9223372036854775808) = false := by simp [hmin]
    obtain ⟨g1, g2⟩ := q3 hmin
    have w6 : IntKind.i64.wrap (0 - n) = -n := by rw [IntKind.wrap_i64]; unfold inI at h1; omega
    have w7 : IntKind.i64.wrap (0 - q) = -q := by rw [IntKind.wrap_i64]; omega
    have h3 : inI (-n) := by unfold inI at h1 ⊢; omega
    simp +contextual only [go_sem, ↓reduceIte, Nat.reduceEqDiff, Nat.reduceAdd, Nat.reduceLeDiff, Nat.reduceLT, reduceCtorEq, c4, k4, h13, t1, h11, h1, h2, and_self, hm, hq, ne_self, w1, w2, t2, t3, f2, f3, f4, t6, w6, w7, h3, g1, eq_self]
    try rfl
end Go.Proofs.YtfmeplnoikfndaaDoor
