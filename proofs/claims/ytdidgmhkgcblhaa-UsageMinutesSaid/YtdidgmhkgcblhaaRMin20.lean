/- The reference's minutes; uses. -/
import Derived.Test.YtdidgmhkgcblhaaMin20
namespace Go.Proofs.Ytdidgmhkgcblhaa
set_option linter.all false
open Go.Idl
set_option maxHeartbeats 4000000
set_option maxRecDepth 100000
attribute [local go_sem] Try.underlying3 Try.underlying5 Try.underlying9 Try.underlying4
theorem okE_int (x : Int) : okE 1 (Cod.enc x) = true := rfl
theorem con16 {Φ : Specs} (hg : Idl.Good Try.prog Φ) (h11 : Φ 11 = some SVal) (h21 : Φ 21 = some SBt) : Contract Try.prog 16 SMin := by
  refine conT hg k16 ic16 (by decide) fun C t r h => ?_
  obtain ⟨l, m, u⟩ := t
  cases h
  by_cases hz : valS l m = 0
  rotate_left
  · have hz' : (valS l m != 0) = true := by simpa using hz
    simp +contextual only [go_sem, ↓reduceIte, Nat.reduceEqDiff, Nat.reduceAdd, Nat.reduceLeDiff, Nat.reduceLT, reduceCtorEq, c16, k16, h11, hz']
    simp only [minS, hz', cond_true]
  have hz' : (valS l m != 0) = false := by simpa using hz
  have hv := valS_ok hz
  have hl := hv.len
  have hne := List.length_pos_iff.2 hv.ne
  have hw1 : IntKind.i64.wrap ((l.length : Int) - 1) = ((l.length - 1 : Nat) : Int) := by rw [IntKind.wrap_i64]; omega
  have hx : l[0]? = some l[0] := by simp
  have hy : l[l.length - 1]? = some l[l.length - 1] := by simp
  have e1 : l[0].time = firstTm l := by simp [firstTm, List.head?_eq_getElem?, hx]
  have e2 : l[l.length - 1].time = lastTm l := by simp [lastTm, List.getLast?_eq_getElem?, hy]
  have z0 : (0 : Int).toNat = 0 := rfl
  obtain ⟨q1, q2⟩ := minL_len m hv.asc hv.ne
  have o1 := rOk_at hv hx
  have o2 := rOk_at hv hy
  rw [e1] at o1
  rw [e2] at o2
  have hw2 : IntKind.i64.wrap (lastTm l - firstTm l) = lastTm l - firstTm l := by rw [IntKind.wrap_i64]; omega
  simp +contextual only [go_sem, ↓reduceIte, Nat.reduceEqDiff, Nat.reduceAdd, Nat.reduceLeDiff, Nat.reduceLT, reduceCtorEq, c16, k16, h11, hz', hw1, hx, hy, z0, e1, e2, hw2, List.length_map, List.getElem?_map, Option.map_some, Int.natCast_nonneg, Int.toNat_natCast, Int.le_refl]
  refine ⟨rfl, fun h2 => ?_, fun h2 => ?_⟩
  · simp only [minS, hz', h2, cond_true, cond_false]
  have hs : minS l m = (minL m l, 0) := by simp only [minS, hz', h2, cond_false]
  rw [hs]
  have h2' : lastTm l - firstTm l ≤ 20160 := by simpa using h2
  refine TriI.loopA hg k16 (fun p : Nat × List Int => ⟨slotsL [(0, Cod.enc l), (1, .sc (.int .i64 m)), (7, .own 0 0 p.2.length), (8, .sc (.int .i64 (p.1 : Nat)))], objsL [.live 1 (p.2.map Cod.enc) true], 1⟩)
    (fun p => (1 ≤ p.1 ∧ p.1 ≤ l.length + 1) ∧ p.2 ++ minL m (l.drop (p.1 - 1)) = minL m l) (fun p => l.length + 1 - p.1) (1, []) (.ren [none] rfl rfl 0 ?_) ⟨⟨Nat.le_refl _, by dsimp only; omega⟩, rfl⟩ ?_
  · simp +contextual only [go_sem, ↓reduceIte, Nat.reduceEqDiff, Nat.reduceAdd, Nat.reduceLeDiff, Nat.reduceLT, reduceCtorEq, List.length_nil, List.map_nil]
    rfl
  · rintro ⟨i, a⟩ ⟨⟨g1, g2⟩, h1⟩
    dsimp only at g1 g2 h1 ⊢
    by_cases hlt : i < l.length
    · have hw0 := wrap_nat hlt (by omega)
      obtain ⟨j, rfl⟩ : ∃ j, i = j + 1 := ⟨i - 1, by omega⟩
      have hwj : IntKind.i64.wrap (((j + 1 : Nat) : Int) - 1) = (j : Int) := by rw [IntKind.wrap_i64]; omega
      have hxj : l[j]? = some l[j] := by simp
      have hyj : l[j + 1]? = some l[j + 1] := by simp
      have hd := minL_drop m hxj hyj
      have hb := bt_range l[j] l[j + 1] (m := m) (by have := hv.m1; omega)
      have hm1 := hv.m1
      have hm2 := hv.m2
      have r1 := hv.ok l[j] (by simp)
      have r2 := hv.ok l[j + 1] (by simp)
      obtain ⟨xt, _, _⟩ := rOk_at hv hxj
      obtain ⟨yt, _, _⟩ := rOk_at hv hyj
      have hasc := asc_at hv.asc hxj hyj
      have wl : IntKind.i64.wrap (l[j + 1].time - l[j].time) = l[j + 1].time - l[j].time := by rw [IntKind.wrap_i64]; omega
      have hlen : a.length + (l[j + 1].time - l[j].time).toNat ≤ 20160 := by
        have h3 := congrArg List.length h1
        rw [show j + 1 - 1 = j from rfl, hd, List.length_append, List.length_append, mns_len] at h3
        omega
      simp +contextual only [go_sem, ↓reduceIte, Nat.reduceEqDiff, Nat.reduceAdd, Nat.reduceLeDiff, Nat.reduceLT, reduceCtorEq, k16, hlt, lt_dec hlt, hwj, hxj, hyj, h21, hm1, hm2, r1, r2, wl, and_self, List.length_map, List.getElem?_map, Option.map_some, Int.natCast_nonneg, Int.toNat_natCast]
      generalize bt m l[j] l[j + 1] = e at hd hb
      generalize hdd : l[j + 1].time - l[j].time = d at hd hlen
      refine ⟨rfl, rfl, ?_⟩
      refine TriI.loopA hg k16 (fun k : Nat => ⟨slotsL [(0, Cod.enc l), (1, .sc (.int .i64 m)), (7, .own 0 0 (a ++ mns e d k).length), (8, .sc (.int .i64 ((j + 1 : Nat) : Int))), (9, .sc (.int .i64 d)), (10, .sc (.int .i64 e)), (11, .sc (.int .i64 (k : Nat)))], objsL [.live 1 ((a ++ mns e d k).map Cod.enc) true], 1⟩)
        (fun k => k ≤ d.toNat) (fun k => d.toNat - k) 0 (.back rfl ?_) (Nat.zero_le _) ?_
      · simp +contextual only [go_sem, ↓reduceIte, Nat.reduceEqDiff, Nat.reduceAdd, Nat.reduceLeDiff, Nat.reduceLT, reduceCtorEq, mns, List.range_zero, List.map_nil, List.append_nil, low_ints]
        rfl
      · intro k hk
        have hal : (a ++ mns e d k).length = a.length + k := by rw [List.length_append, mns_len]
        by_cases hkd : k < d.toNat
        · have hdec : decide ((k : Int) < d) = true := by simp; omega
          obtain ⟨⟨p1, p2⟩, ⟨p3, p4⟩, ⟨p5, p6⟩, p7, p8⟩ := mn_bounds (n := d) (k := k) hb.1 (by omega) (by omega) (by omega) (by omega)
          have d0 : d ≠ 0 := by omega
          have d0' : ¬ d = 0 := d0
          have r0 : IntKind.i64.wrap ((k : Int) + 1) = (k : Int) + 1 := by rw [IntKind.wrap_i64]; omega
          have r1 : IntKind.i64.wrap (e * ((k : Int) + 1)) = e * ((k : Int) + 1) := by rw [IntKind.wrap_i64]; omega
          have r2 : IntKind.i64.wrap (e * (k : Int)) = e * (k : Int) := by rw [IntKind.wrap_i64]; omega
          have r3 : (e * ((k : Int) + 1)).tdiv d = e * ((k : Int) + 1) / d := Int.tdiv_eq_ediv_of_nonneg p1
          have r4 : (e * (k : Int)).tdiv d = e * (k : Int) / d := Int.tdiv_eq_ediv_of_nonneg p3
          have r5 : IntKind.i64.wrap (e * ((k : Int) + 1) / d) = e * ((k : Int) + 1) / d := by rw [IntKind.wrap_i64]; omega
          have r6 : IntKind.i64.wrap (e * (k : Int) / d) = e * (k : Int) / d := by rw [IntKind.wrap_i64]; omega
          have r7 : IntKind.i64.wrap (e * ((k : Int) + 1) / d - e * (k : Int) / d) = e * ((k : Int) + 1) / d - e * (k : Int) / d := by rw [IntKind.wrap_i64]; omega
          have b1 : ((a ++ mns e d k).length + 1) * 8 ≤ 68719476736 := by omega
          have b2 : (a ++ mns e d k).length + 1 ≤ 4294967296 := by omega
          simp +contextual only [go_sem, ↓reduceIte, Nat.reduceEqDiff, Nat.reduceAdd, Nat.reduceLeDiff, Nat.reduceLT, reduceCtorEq, k16, hdec, r0, r1, r2, r3, r4, r5, r6, r7, d0, d0', b1, b2, ne_eq, not_false_eq_true, List.length_map, Nat.zero_add, List.drop_zero, true_and, and_true, okE]
          have hmn : e * ((k : Int) + 1) / d - e * (k : Int) / d = mn e d k := rfl
          rw [hmn]
          refine ⟨rfl, k + 1, by dsimp only; omega, by dsimp only; omega, .ren [some 15] rfl rfl 0 ?_⟩
          have hcat : List.map Cod.enc (a ++ mns e d k) ++ [V.sc (.int .i64 (mn e d k))] = (a ++ mns e d (k + 1)).map Cod.enc := by
            rw [mns_succ, List.map_append, List.map_append, List.map_append, List.append_assoc]; rfl
          have hal' : (a ++ mns e d (k + 1)).length = (a ++ mns e d k).length + 1 := by rw [List.length_append, List.length_append, mns_len, mns_len]; omega
          simp +contextual only [go_sem, ↓reduceIte, Nat.reduceEqDiff, Nat.reduceAdd, Nat.reduceLeDiff, Nat.reduceLT, reduceCtorEq, hcat, hal', low_ints, Nat.zero_add]
          try rfl
        · have hdec : decide ((k : Int) < d) = false := by simp; omega
          have ek : k = d.toNat := by omega
          subst ek
          simp +contextual only [go_sem, ↓reduceIte, Nat.reduceEqDiff, Nat.reduceAdd, Nat.reduceLeDiff, Nat.reduceLT, reduceCtorEq, k16, hdec, hw0]
          refine ⟨(j + 2, a ++ mns e d d.toNat), by dsimp only; omega, ⟨⟨Nat.le_add_left 1 (j + 1), by first | omega | (dsimp only; omega)⟩, ?_⟩, .back rfl ?_⟩
          · dsimp only
            rw [← h1, show j + 2 - 1 = j + 1 from rfl, show j + 1 - 1 = j from rfl, hd, List.append_assoc]
          · simp +contextual only [go_sem, ↓reduceIte, Nat.reduceEqDiff, Nat.reduceAdd, Nat.reduceLeDiff, Nat.reduceLT, reduceCtorEq, low_ints]
    · have hd : decide ((i : Int) < (l.length : Int)) = false := by simp; omega
      rw [minL_end m (by omega), List.append_nil] at h1
      have hF := isF_ints (minL m l)
      have hT : ((minL m l).map (Cod.enc : Int → V)).take (minL m l).length = (minL m l).map Cod.enc := List.take_of_length_le (by simp)
      subst h1
      simp +contextual only [go_sem, ↓reduceIte, Nat.reduceEqDiff, Nat.reduceAdd, Nat.reduceLeDiff, Nat.reduceLT, reduceCtorEq, k16, hd, List.length_map, hF, hT, Nat.zero_add, Nat.le_refl, true_and, and_true, decL_enc Cod.dec_enc]
def usesOf (l : List Int) : List UseD := l.map fun x => ⟨x, x == 0⟩
def useS (l : List Rdg) (m : Int) : List UseD × Int := bif (minS l m).2 != 0 then ([], (minS l m).2) else (usesOf (minS l m).1, 0)
abbrev SUse : List V → Option V := FT fun (t : List Rdg × Int × Unit) => some (useS t.1 t.2.1)
theorem minS_len (l : List Rdg) (m : Int) : (minS l m).1.length ≤ 20160 := by
  unfold minS
  cases h1 : valS l m != 0 with
  | true => simp
  | false =>
    cases h2 : decide (lastTm l - firstTm l > 20160) with
    | true => simp
    | false =>
      have hv := valS_ok (l := l) (m := m) (by simpa using h1)
      obtain ⟨q1, q2⟩ := minL_len m hv.asc hv.ne
      simp at h2 ⊢
      omega
theorem low_uses (n : Nat) (l : List UseD) : (l.map Cod.enc).all (V.low n) = true := by
  simp only [List.all_map, List.all_eq_true]
  intro x _
  rfl
theorem isF_uses (l : List UseD) : (l.map Cod.enc).all V.isF = true := by
  simp only [List.all_map, List.all_eq_true]
  intro x _
  rfl
theorem con17 {Φ : Specs} (hg : Idl.Good Try.prog Φ) (h15 : Φ 15 = some SMin) : Contract Try.prog 17 SUse := by
  refine conT hg k17 ic17 (by decide) fun C t r h => ?_
  obtain ⟨l, m, u⟩ := t
  cases h
  have hle := minS_len l m
  generalize hM : minS l m = M at hle
  obtain ⟨L, e⟩ := M
  dsimp only at hle
  cases he : e != 0 with
  | true =>
    have hs : useS l m = ([], e) := by simp only [useS, hM, he, cond_true]
    rw [hs]
    simp +contextual only [go_sem, ↓reduceIte, Nat.reduceEqDiff, Nat.reduceAdd, Nat.reduceLeDiff, Nat.reduceLT, reduceCtorEq, c17, k17, h15, hM, he]
  | false =>
    have hs : useS l m = (usesOf L, 0) := by simp only [useS, hM, he, cond_false]
    rw [hs]
    have c1 : (0 : Int) ≤ L.length := by omega
    have c2 : (L.length : Int) ≤ 4294967296 := by omega
    have c3 : 16 * L.length ≤ 281474976710656 := by omega
    have z0 : (0 : Int).toNat = 0 := rfl
    simp +contextual only [go_sem, ↓reduceIte, Nat.reduceEqDiff, Nat.reduceAdd, Nat.reduceLeDiff, Nat.reduceLT, reduceCtorEq, c17, k17, h15, hM, he, c1, c2, c3, z0, Int.le_refl, List.length_map, Int.toNat_natCast, List.replicate_zero, true_and, and_true]
    refine TriI.loopL hg k17 L (fun i (a : List Int) => ⟨slotsL [(8, .own 0 0 (usesOf a).length), (23, Cod.enc L), (24, .sc (.int .i64 L.length)), (25, .sc (.int .i64 i))], objsL [.live 2 ((usesOf a).map Cod.enc) true], 1⟩)
      (fun xs a => L = a ++ xs) [] (.back rfl ?_) rfl ?_ ?_
    · simp +contextual only [go_sem, ↓reduceIte, Nat.reduceEqDiff, Nat.reduceAdd, Nat.reduceLeDiff, Nat.reduceLT, reduceCtorEq, usesOf, List.map_nil, List.length_nil, List.length_map]
      rfl
    · intro a hinv
      rw [List.append_nil] at hinv
      subst hinv
      have hF := isF_uses (usesOf L)
      have hT : ((usesOf L).map (Cod.enc : UseD → V)).take (usesOf L).length = (usesOf L).map Cod.enc := List.take_of_length_le (by simp)
      simp +contextual only [go_sem, ↓reduceIte, Nat.reduceEqDiff, Nat.reduceAdd, Nat.reduceLeDiff, Nat.reduceLT, reduceCtorEq, k17, Int.lt_irrefl, decide_false, List.length_map, hF, hT, Nat.zero_add, Nat.le_refl, true_and, and_true, List.drop_zero, decL_enc Cod.dec_enc]
    · intro i a x xs hd hlt hx hinv
      have hw := wrap_nat hlt (by omega)
      have hal : a.length ≤ L.length := by rw [hinv]; simp
      have hul : (usesOf a).length = a.length := by simp [usesOf]
      have b1 : ((usesOf a).length + 1) * 16 ≤ 68719476736 := by omega
      have b2 : (usesOf a).length + 1 ≤ 4294967296 := by omega
      simp +contextual only [go_sem, ↓reduceIte, Nat.reduceEqDiff, Nat.reduceAdd, Nat.reduceLeDiff, Nat.reduceLT, reduceCtorEq, k17, lt_dec hlt, hx, hw, b1, b2, List.length_map, List.getElem?_map, Option.map_some, Int.natCast_nonneg, Int.toNat_natCast, Nat.zero_add, List.drop_zero, true_and, and_true, okE]
      refine ⟨a ++ [x], by rw [hinv]; simp, .ren [some 2] rfl rfl 0 ?_⟩
      have hu : usesOf (a ++ [x]) = usesOf a ++ [⟨x, x == 0⟩] := by simp [usesOf]
      simp +contextual only [go_sem, ↓reduceIte, Nat.reduceEqDiff, Nat.reduceAdd, Nat.reduceLeDiff, Nat.reduceLT, reduceCtorEq, hu, List.map_append, List.map_cons, List.map_nil, List.length_append, List.length_cons, List.length_nil, List.all_append, low_uses, Nat.zero_add]
theorem con18 {Φ : Specs} (hg : Idl.Good Try.prog Φ) (h16 : Φ 16 = some SMin) : Contract Try.prog 18 SUse := by
  refine conT hg k18 ic18 (by decide) fun C t r h => ?_
  obtain ⟨l, m, u⟩ := t
  cases h
  have hle := minS_len l m
  generalize hM : minS l m = M at hle
  obtain ⟨L, e⟩ := M
  dsimp only at hle
  cases he : e != 0 with
  | true =>
    have hs : useS l m = ([], e) := by simp only [useS, hM, he, cond_true]
    rw [hs]
    simp +contextual only [go_sem, ↓reduceIte, Nat.reduceEqDiff, Nat.reduceAdd, Nat.reduceLeDiff, Nat.reduceLT, reduceCtorEq, c18, k18, h16, hM, he]
  | false =>
    have hs : useS l m = (usesOf L, 0) := by simp only [useS, hM, he, cond_false]
    rw [hs]
    simp +contextual only [go_sem, ↓reduceIte, Nat.reduceEqDiff, Nat.reduceAdd, Nat.reduceLeDiff, Nat.reduceLT, reduceCtorEq, c18, k18, h16, hM, he, List.length_map]
    refine TriI.loopL hg k18 L (fun i (a : List Int) => ⟨slotsL [(6, Cod.enc L), (8, .own 0 0 (usesOf a).length), (9, .sc (.int .i64 i))], objsL [.live 2 ((usesOf a).map Cod.enc) true], 1⟩)
      (fun xs a => L = a ++ xs) [] (.ren [none] rfl rfl 0 ?_) rfl ?_ ?_
    · simp +contextual only [go_sem, ↓reduceIte, Nat.reduceEqDiff, Nat.reduceAdd, Nat.reduceLeDiff, Nat.reduceLT, reduceCtorEq, usesOf, List.map_nil, List.length_nil, List.length_map]
      rfl
    · intro a hinv
      rw [List.append_nil] at hinv
      subst hinv
      have hF := isF_uses (usesOf L)
      have hT : ((usesOf L).map (Cod.enc : UseD → V)).take (usesOf L).length = (usesOf L).map Cod.enc := List.take_of_length_le (by simp)
      simp +contextual only [go_sem, ↓reduceIte, Nat.reduceEqDiff, Nat.reduceAdd, Nat.reduceLeDiff, Nat.reduceLT, reduceCtorEq, k18, Int.lt_irrefl, decide_false, List.length_map, hF, hT, Nat.zero_add, Nat.le_refl, true_and, and_true, List.drop_zero, decL_enc Cod.dec_enc]
    · intro i a x xs hd hlt hx hinv
      have hw := wrap_nat hlt (by omega)
      have hal : a.length ≤ L.length := by rw [hinv]; simp
      have hul : (usesOf a).length = a.length := by simp [usesOf]
      have b1 : ((usesOf a).length + 1) * 16 ≤ 68719476736 := by omega
      have b2 : (usesOf a).length + 1 ≤ 4294967296 := by omega
      simp +contextual only [go_sem, ↓reduceIte, Nat.reduceEqDiff, Nat.reduceAdd, Nat.reduceLeDiff, Nat.reduceLT, reduceCtorEq, k18, lt_dec hlt, hx, hw, b1, b2, List.length_map, List.getElem?_map, Option.map_some, Int.natCast_nonneg, Int.toNat_natCast, Nat.zero_add, List.drop_zero, true_and, and_true, okE]
      refine ⟨rfl, a ++ [x], by rw [hinv]; simp, .ren [some 13] rfl rfl 0 ?_⟩
      have hu : usesOf (a ++ [x]) = usesOf a ++ [⟨x, x == 0⟩] := by simp [usesOf]
      simp +contextual only [go_sem, ↓reduceIte, Nat.reduceEqDiff, Nat.reduceAdd, Nat.reduceLeDiff, Nat.reduceLT, reduceCtorEq, hu, List.map_append, List.map_cons, List.map_nil, List.length_append, List.length_cons, List.length_nil, List.all_append, low_uses, Nat.zero_add]
end Go.Proofs.Ytdidgmhkgcblhaa
