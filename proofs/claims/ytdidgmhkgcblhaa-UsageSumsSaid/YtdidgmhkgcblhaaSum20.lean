/- The minutes have the sum of the total. -/
import Derived.Test.YtdidgmhkgcblhaaPart20
namespace Go.Proofs.Ytdidgmhkgcblhaa
set_option linter.all false
open Go.Idl
set_option maxHeartbeats 4000000
set_option maxRecDepth 100000
attribute [local go_sem] Try.underlying3 Try.underlying5 Try.underlying9 Try.underlying4
theorem mn_near {e n : Int} (k : Nat) (h0 : 0 ≤ e) (hn : 0 < n) : e / n ≤ mn e n k ∧ mn e n k ≤ e / n + 1 := by
  unfold mn
  have e1 : e * ((k : Int) + 1) = e * (k : Int) + e := by rw [Int.mul_add, Int.mul_one]
  rw [e1]
  generalize e * (k : Int) = x
  have a1 := Int.emod_add_mul_ediv x n
  have a2 := Int.emod_add_mul_ediv e n
  have a3 := Int.emod_nonneg x (show n ≠ 0 by omega)
  have a4 := Int.emod_lt_of_pos x hn
  have a5 := Int.emod_nonneg e (show n ≠ 0 by omega)
  have a6 := Int.emod_lt_of_pos e hn
  have a7 := Int.emod_add_mul_ediv (x + e) n
  have a8 := Int.emod_nonneg (x + e) (show n ≠ 0 by omega)
  have a9 := Int.emod_lt_of_pos (x + e) hn
  generalize x / n = p at *
  generalize e / n = q at *
  generalize (x + e) / n = s at *
  have h1 : n * s + (x + e) % n = n * (p + q) + (x % n + e % n) := by rw [Int.mul_add]; omega
  have h2 : n * (s - (p + q)) = x % n + e % n - (x + e) % n := by rw [Int.mul_sub]; omega
  have h3 : 0 ≤ s - (p + q) := by
    by_cases hc : s - (p + q) ≤ -1
    · have := Int.mul_le_mul_of_nonneg_left hc (show 0 ≤ n by omega)
      omega
    · omega
  have h4 : s - (p + q) ≤ 1 := by
    by_cases hc : 2 ≤ s - (p + q)
    · have := Int.mul_le_mul_of_nonneg_left hc (show 0 ≤ n by omega)
      omega
    · omega
  omega
theorem mn_tele (e n : Int) (k : Nat) : e * (k : Int) / n + mn e n k = e * ((k + 1 : Nat) : Int) / n := by unfold mn; push_cast; omega
theorem totL_nonneg {m : Int} (hm : 0 < m) (hm2 : m ≤ 1099511627776) : ∀ l : List Rdg, 0 ≤ totL m l ∧ totL m l ≤ (l.length : Int) * 1099511627776
  | [] => by simp [totL]
  | [a] => by simp [totL]
  | a :: b :: l => by
    have := totL_nonneg hm hm2 (b :: l)
    have hb := bt_range a b hm
    simp only [totL, List.length_cons] at this ⊢
    push_cast at this ⊢
    omega
theorem con6 {Φ : Specs} (hg : Idl.Good Try.prog Φ) (h9 : Φ 9 = some Aw) (h12 : Φ 12 = some STot) (h15 : Φ 15 = some SMin) (h11 : Φ 11 = some SVal) : Contract Try.prog 6 (FT fun (_ : List Rdg × Int × Unit) => some true) := by
  refine conT hg k6 ic6 (by decide) fun C t r h => ?_
  obtain ⟨l, m, u⟩ := t
  cases h
  by_cases h40 : l.length > 40
  · have d1 : decide ((l.length : Int) > 40) = true := by simp; omega
    simp +contextual only [go_sem, ↓reduceIte, Nat.reduceEqDiff, Nat.reduceAdd, Nat.reduceLeDiff, Nat.reduceLT, reduceCtorEq, c6, k6, h9, d1, List.length_map]
    rfl
  have d1 : decide ((l.length : Int) > 40) = false := by simp; omega
  by_cases hz : valS l m = 0
  rotate_left
  · have d3 : (valS l m != 0) = true := by simpa using hz
    simp +contextual only [go_sem, ↓reduceIte, Nat.reduceEqDiff, Nat.reduceAdd, Nat.reduceLeDiff, Nat.reduceLT, reduceCtorEq, c6, k6, h9, d1, h11, d3, List.length_map]
    rfl
  have d3 : (valS l m != 0) = false := by simpa using hz
  have hv := valS_ok hz
  have hl := hv.len
  have hne := List.length_pos_iff.2 hv.ne
  have hw1 : IntKind.i64.wrap ((l.length : Int) - 1) = ((l.length - 1 : Nat) : Int) := by rw [IntKind.wrap_i64]; omega
  have hx : l[0]? = some l[0] := by simp
  have hy : l[l.length - 1]? = some l[l.length - 1] := by simp
  have e1 : l[0].time = firstTm l := by simp [firstTm, List.head?_eq_getElem?, hx]
  have e2 : l[l.length - 1].time = lastTm l := by simp [lastTm, List.getLast?_eq_getElem?, hy]
  have z0 : (0 : Int).toNat = 0 := rfl
  obtain ⟨q1, q2⟩ := minL_len m hv.asc hv.ne
  have o1 := rOk_at hv hx
  have o2 := rOk_at hv hy
  rw [e1] at o1
  rw [e2] at o2
  have hw2 : IntKind.i64.wrap (lastTm l - firstTm l) = lastTm l - firstTm l := by rw [IntKind.wrap_i64]; omega
  by_cases h400 : lastTm l - firstTm l > 400
  · have d4 : decide (lastTm l - firstTm l > 400) = true := by simpa using h400
    simp +contextual only [go_sem, ↓reduceIte, Nat.reduceEqDiff, Nat.reduceAdd, Nat.reduceLeDiff, Nat.reduceLT, reduceCtorEq, c6, k6, h9, d1, h11, d3, d4, hw1, hx, hy, z0, e1, e2, hw2, List.length_map, List.getElem?_map, Option.map_some, Int.natCast_nonneg, Int.toNat_natCast, Int.le_refl]
    rfl
  have d4 : decide (lastTm l - firstTm l > 400) = false := by simpa using h400
  have d5 : decide (lastTm l - firstTm l > 20160) = false := by simp; omega
  have hT : totS l m = (totL m l, 0) := by simp only [totS, d3, cond_false]
  have hM : minS l m = (minL m l, 0) := by simp only [minS, d3, d5, cond_false]
  have d6 : (((minL m l).length : Int) != lastTm l - firstTm l) = false := by simp; omega
  simp +contextual only [go_sem, ↓reduceIte, Nat.reduceEqDiff, Nat.reduceAdd, Nat.reduceLeDiff, Nat.reduceLT, reduceCtorEq, c6, k6, h9, d1, h11, d3, d4, d6, h12, hT, h15, hM, hw1, hx, hy, z0, e1, e2, hw2, List.length_map, List.getElem?_map, Option.map_some, Int.natCast_nonneg, Int.toNat_natCast, Int.le_refl, bne_self_eq_false]
  refine ⟨rfl, rfl, ?_⟩
  have hml : (minL m l).length ≤ 400 := by omega
  refine TriI.loopA hg k6 (fun p : Nat × Int × Nat => ⟨slotsL [(0, Cod.enc l), (5, .sc (.int .i64 (totL m l))), (7, Cod.enc (minL m l)), (9, .sc (.int .i64 p.2.1)), (10, .sc (.int .i64 (p.2.2 : Nat))), (11, .sc (.int .i64 (p.1 : Nat)))], objsL [], 0⟩)
    (fun p => (1 ≤ p.1 ∧ p.1 ≤ l.length + 1) ∧ (minL m l).drop p.2.2 = minL m (l.drop (p.1 - 1)) ∧ p.2.1 + totL m (l.drop (p.1 - 1)) = totL m l ∧ 0 ≤ p.2.1) (fun p => l.length + 1 - p.1) (1, 0, 0) (.back rfl ?_) ⟨⟨Nat.le_refl _, by dsimp only; omega⟩, rfl, by simp, by dsimp only; omega⟩ ?_
  · simp +contextual only [go_sem, ↓reduceIte, Nat.reduceEqDiff, Nat.reduceAdd, Nat.reduceLeDiff, Nat.reduceLT, reduceCtorEq]
    try rfl
    try exact ⟨rfl, rfl⟩
  · rintro ⟨i, sm, at_⟩ ⟨⟨g1, g2⟩, h1, h2, h3⟩
    dsimp only at g1 g2 h1 h2 h3 ⊢
    by_cases hlt : i < l.length
    · have hw0 := wrap_nat hlt (by omega)
      obtain ⟨j, rfl⟩ : ∃ j, i = j + 1 := ⟨i - 1, by omega⟩
      have hwj : IntKind.i64.wrap (((j + 1 : Nat) : Int) - 1) = (j : Int) := by rw [IntKind.wrap_i64]; omega
      have hxj : l[j]? = some l[j] := by simp
      have hyj : l[j + 1]? = some l[j + 1] := by simp
      have hdM := minL_drop m hxj hyj
      have hdT := totL_drop m hxj hyj
      have hb := bt_range l[j] l[j + 1] (m := m) (by have := hv.m1; omega)
      have hm1 := hv.m1
      have hm2 := hv.m2
      obtain ⟨xt, _, _⟩ := rOk_at hv hxj
      obtain ⟨yt, _, _⟩ := rOk_at hv hyj
      have hasc := asc_at hv.asc hxj hyj
      have hTb := totL_nonneg (m := m) (by omega) hm2 l
      have hTb2 := totL_nonneg (m := m) (by omega) hm2 (l.drop (j + 1))
      have hll : (l.length : Int) ≤ 40 := by omega
      rw [show j + 1 - 1 = j from rfl] at h1 h2
      rw [hdM] at h1
      rw [hdT] at h2
      generalize bt m l[j] l[j + 1] = e at h1 h2 hb
      generalize hdd : l[j + 1].time - l[j].time = d at h1
      have hat : at_ + d.toNat ≤ (minL m l).length := by
        have := congrArg List.length h1
        rw [List.length_append, mns_len, List.length_drop] at this
        omega
      have hget : ∀ t, t < d.toNat → (minL m l)[at_ + t]? = some (mn e d t) := fun t ht => by
        have := congrArg (fun L => L[t]?) h1
        simp only [List.getElem?_drop] at this
        rw [this, List.getElem?_append_left (by rw [mns_len]; exact ht), mns, List.getElem?_map, List.getElem?_range ht]; rfl
      have hg0 := hget 0 (by omega)
      rw [Nat.add_zero] at hg0
      have hn0 := mn_near (e := e) (n := d) 0 hb.1 (by omega)
      have hq0 : 0 ≤ e / d := Int.ediv_nonneg hb.1 (by omega)
      have hqe : e / d ≤ e := Int.ediv_le_self _ hb.1
      simp +contextual only [go_sem, ↓reduceIte, Nat.reduceEqDiff, Nat.reduceAdd, Nat.reduceLeDiff, Nat.reduceLT, reduceCtorEq, k6, hlt, lt_dec hlt, hwj, hxj, hyj, hg0, List.length_map, List.getElem?_map, Option.map_some, Int.natCast_nonneg, Int.toNat_natCast]
      refine ⟨rfl, ?_⟩
      refine TriI.loopA hg k6 (fun p : Nat × Int × Int => ⟨slotsL [(0, Cod.enc l), (5, .sc (.int .i64 (totL m l))), (7, Cod.enc (minL m l)), (9, .sc (.int .i64 (sm + e * (p.1 : Int) / d))), (10, .sc (.int .i64 ((at_ + p.1 : Nat) : Int))), (11, .sc (.int .i64 ((j + 1 : Nat) : Int))), (12, .sc (.int .i64 p.2.1)), (13, .sc (.int .i64 p.2.2)), (14, .sc (.int .i64 (l[j].time + (p.1 : Int))))], objsL [], 0⟩)
        (fun p => p.1 ≤ d.toNat ∧ (e / d ≤ p.2.1 ∧ p.2.1 ≤ e / d + 1) ∧ e / d ≤ p.2.2 ∧ p.2.2 ≤ e / d + 1) (fun p => d.toNat - p.1) (0, mn e d 0, mn e d 0) (.back rfl ?_) ⟨Nat.zero_le _, hn0, hn0⟩ ?_
      · simp +contextual only [go_sem, ↓reduceIte, Nat.reduceEqDiff, Nat.reduceAdd, Nat.reduceLeDiff, Nat.reduceLT, reduceCtorEq, Nat.add_zero]
        exact ⟨by simp, by simp⟩
      · rintro ⟨k, lo, hi⟩ ⟨hk, ⟨u1, u2⟩, u3, u4⟩
        dsimp only at hk u1 u2 u3 u4 ⊢
        by_cases hkd : k < d.toNat
        · have hdec : decide (l[j].time + (k : Int) < l[j + 1].time) = true := by simp; omega
          have hgk := hget k hkd
          have hnk := mn_near (e := e) (n := d) k hb.1 (by omega)
          obtain ⟨_, ⟨p3, p4⟩, ⟨p5, p6⟩, p7, p8⟩ := mn_bounds (n := d) (k := k) hb.1 (by omega) (by omega) (by omega) (by omega)
          have htele := mn_tele e d k
          have s1 : IntKind.i64.wrap (sm + e * (k : Int) / d + mn e d k) = sm + e * ((k + 1 : Nat) : Int) / d := by rw [IntKind.wrap_i64]; push_cast at htele ⊢; omega
          have s2 : IntKind.i64.wrap (((at_ + k : Nat) : Int) + 1) = ((at_ + (k + 1) : Nat) : Int) := by rw [IntKind.wrap_i64]; omega
          have s3 : IntKind.i64.wrap (l[j].time + (k : Int) + 1) = l[j].time + ((k + 1 : Nat) : Int) := by rw [IntKind.wrap_i64]; omega
          simp +contextual only [go_sem, ↓reduceIte, Nat.reduceEqDiff, Nat.reduceAdd, Nat.reduceLeDiff, Nat.reduceLT, reduceCtorEq, k6, hxj, hyj, hdec, hgk, s1, s2, s3, List.length_map, List.getElem?_map, Option.map_some, Int.natCast_nonneg, Int.toNat_natCast]
          refine ⟨rfl, (k + 1, min lo (mn e d k), max hi (mn e d k)), by dsimp only; omega, ⟨by dsimp only; omega, by dsimp only; omega, by dsimp only; omega⟩, .back rfl ?_⟩
          simp +contextual only [go_sem, ↓reduceIte, Nat.reduceEqDiff, Nat.reduceAdd, Nat.reduceLeDiff, Nat.reduceLT, reduceCtorEq]
        · have hdec : decide (l[j].time + (k : Int) < l[j + 1].time) = false := by simp; omega
          have ek : k = d.toNat := by omega
          subst ek
          have s1 : decide (lo < 0) = false := by simp; omega
          have s2 : decide (IntKind.i64.wrap (hi - lo) > 1) = false := by
            have : IntKind.i64.wrap (hi - lo) = hi - lo := by rw [IntKind.wrap_i64]; omega
            rw [this]; simp; omega
          simp +contextual only [go_sem, ↓reduceIte, Nat.reduceEqDiff, Nat.reduceAdd, Nat.reduceLeDiff, Nat.reduceLT, reduceCtorEq, k6, hxj, hyj, hdec, hw0, s1, s2, List.length_map, List.getElem?_map, Option.map_some, Int.natCast_nonneg, Int.toNat_natCast]
          have hdn : ((d.toNat : Nat) : Int) = d := by omega
          have hed : e * ((d.toNat : Nat) : Int) / d = e := by rw [hdn]; exact Int.mul_ediv_cancel _ (by omega)
          refine ⟨(j + 2, sm + e * ((d.toNat : Nat) : Int) / d, at_ + d.toNat), by dsimp only; omega, ⟨⟨Nat.le_add_left 1 (j + 1), by first | omega | (dsimp only; omega)⟩, ?_, ?_, ?_⟩, .back rfl ?_⟩
          · dsimp only
            rw [← List.drop_drop, h1, List.drop_append, mns_len]
            simp [mns_len]
          · dsimp only
            rw [hed, show j + 2 - 1 = j + 1 from rfl]
            omega
          · dsimp only
            rw [hed]
            omega
          · simp +contextual only [go_sem, ↓reduceIte, Nat.reduceEqDiff, Nat.reduceAdd, Nat.reduceLeDiff, Nat.reduceLT, reduceCtorEq]
    · have hd : decide ((i : Int) < (l.length : Int)) = false := by simp; omega
      rw [totL_end m (by omega), Int.add_zero] at h2
      simp +contextual only [go_sem, ↓reduceIte, Nat.reduceEqDiff, Nat.reduceAdd, Nat.reduceLeDiff, Nat.reduceLT, reduceCtorEq, k6, hd, List.length_map, h2, beq_self_eq_true, h9]
end Go.Proofs.Ytdidgmhkgcblhaa
