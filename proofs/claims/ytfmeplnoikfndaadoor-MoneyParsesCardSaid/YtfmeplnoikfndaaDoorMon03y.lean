/- Amounts: the law on parts. -/
import Derived.Test.YtfmeplnoikfndaaDoorMon03w
namespace Go.Proofs.YtfmeplnoikfndaaDoor
set_option linter.all false
open Go.Idl Go.Lib
set_option linter.all false
set_option maxHeartbeats 16000000
set_option maxRecDepth 100000
attribute [local go_sem] Tryd.underlying3 Tryd.underlying45 Tryd.underlying74 Tryd.underlying5 Tryd.underlying9 Tryd.underlying4 Tryd.underlying22
theorem part_sum_le {A : Nat} {w : List Nat} (hS : 0 < w.sum) {i : Nat} (hi : i < w.length) : partF A w i ≤ A := by
  have h := parts_sum A hS
  have : partF A w i ≤ ((List.range w.length).map (partF A w)).sum := le_sum (i := i) (rng_get _ hi)
  omega
theorem any_sum : ∀ {w : List Int}, w.all okW = true → (w.any fun x => decide (x > 0)) = true → 0 < w.sum
  | [], _, h => by cases h
  | x :: w, ha, h => by
    rw [List.all_cons, Bool.and_eq_true] at ha
    obtain ⟨x0, x1⟩ := okW_iff.1 ha.1
    have h2 := sum_le_all ha.2
    rw [List.any_cons, Bool.or_eq_true] at h
    rw [List.sum_cons]
    rcases h with h | h
    · rw [decide_eq_true_eq] at h; omega
    · have := any_sum ha.2 h; omega
theorem con8 {Φ : Specs} (hg : Idl.Good Tryd.prog Φ) (h18 : Φ 18 = some SSplit) (h13 : Φ 13 = some Aw) :
    Contract Tryd.prog 8 (FT fun (t : Int × List Int × Unit) => if t.2.1.length ≤ 9223372036854775807 ∧ ∀ n, n ∈ t.2.1 → inI n then some true else none) := by
  refine conT hg k8 ic8 (by decide) fun C t r h => ?_
  obtain ⟨a, w, u⟩ := t
  dsimp only at h
  split at h
  case isFalse => cases h
  rename_i hn
  cases h
  obtain ⟨h1, h2⟩ := hn
  cases hb : (decide ((w.length : Int) > 24) || decide (a < -1099511627776) || decide (a > 1099511627776)) with
  | true =>
    simp +contextual only [go_sem, ↓reduceIte, Nat.reduceEqDiff, Nat.reduceAdd, Nat.reduceLeDiff, Nat.reduceLT, reduceCtorEq, c8, k8, List.length_map, hb, h13]
    try rfl
  | false =>
    have hb' := hb
    simp only [Bool.or_eq_false_iff, decide_eq_false_iff_not] at hb'
    obtain ⟨⟨b1, b2⟩, b3⟩ := hb'
    have hlen : w.length ≤ 24 := by omega
    simp +contextual only [go_sem, ↓reduceIte, Nat.reduceEqDiff, Nat.reduceAdd, Nat.reduceLeDiff, Nat.reduceLT, reduceCtorEq, c8, k8, List.length_map, hb, h13]
    refine TriI.loopL hg k8 w (fun i (b : Bool) => ⟨slotsL [(0, .sc (.int .i64 a)), (1, Cod.enc w), (5, .sc (.bool b)), (6, .sc (.int .i64 i))], objsL [], 0⟩)
      (fun xs b => w.all okW = xs.all okW ∧ (w.any fun x => decide (x > 0)) = (b || xs.any fun x => decide (x > 0))) false (.back rfl ?_) ⟨rfl, rfl⟩ ?_ ?_
    · simp +contextual only [go_sem, ↓reduceIte, Nat.reduceEqDiff, Nat.reduceAdd, Nat.reduceLeDiff, Nat.reduceLT, reduceCtorEq, List.length_map]
      try rfl
    · rintro b ⟨ha, hany⟩
      rw [List.all_nil] at ha
      rw [List.any_nil, Bool.or_false] at hany
      cases b with
      | false =>
        simp +contextual only [go_sem, ↓reduceIte, Nat.reduceEqDiff, Nat.reduceAdd, Nat.reduceLeDiff, Nat.reduceLT, reduceCtorEq, k8, List.length_map, Int.lt_irrefl, decide_false, h13, Bool.not_false]
        try rfl
      | true =>
        have hs0 := any_sum ha hany
        have hns := nats_sum ha
        obtain ⟨A, hA⟩ : ∃ A, A = a.natAbs := ⟨_, rfl⟩
        obtain ⟨ws, hws⟩ : ∃ ws, ws = natsW w := ⟨_, rfl⟩
        obtain ⟨n, hnl⟩ : ∃ n, n = w.length := ⟨_, rfl⟩
        have hwl : ws.length = n := by rw [hws, nats_len, hnl]
        rw [← hws] at hns
        have hSp : 0 < ws.sum := by omega
        have hsp : w.length ≤ 1000000 ∧ ∀ n, n ∈ w → inI n := ⟨by omega, h2⟩
        have eS : splitS a w = (partsS a w, 0) := by
          unfold splitS
          rw [if_neg (by omega), if_neg (by omega), if_neg (by rw [ha]; decide), if_neg (by omega)]
        obtain ⟨L, hL⟩ : ∃ L, L = partsS a w := ⟨_, rfl⟩
        have hLl : L.length = n := by rw [hL, partsS, List.length_map, List.length_range, hnl]
        have hLi : ∀ i, i < n → L[i]? = some (sgnP a (partF A ws i)) := fun i hi => by
          rw [hL, partsS, ← hA, ← hws, ← hnl]; exact rng_get _ hi
        have hPle : ∀ i, i < n → partF A ws i ≤ A := fun i hi => part_sum_le hSp (by omega)
        rw [← hL] at eS
        have hwi : ∀ i, i < n → ∃ x, w[i]? = some x ∧ (ws.getD i 0 : Int) = x := fun i hi => by
          have hx : w[i]? = some (w[i]'(by omega)) := List.getElem?_eq_getElem _
          obtain ⟨g1, g2, g3, g4⟩ := nats_get ha hx
          exact ⟨_, hx, (congrArg (fun z : List Nat => ((z.getD i 0 : Nat) : Int)) hws).trans ((congrArg (fun z : Nat => (z : Int)) g1).trans g4)⟩
        have t9 : ((L.length : Int) != (w.length : Int)) = false := by rw [hLl, hnl]; simp
        simp +contextual only [go_sem, ↓reduceIte, Nat.reduceEqDiff, Nat.reduceAdd, Nat.reduceLeDiff, Nat.reduceLT, reduceCtorEq, k8, List.length_map, Int.lt_irrefl, decide_false, h13, h18, hsp, eS, ne_self, t9, Bool.not_true]
        refine TriI.loopA hg k8 (fun i : Nat => ⟨slotsL [(0, .sc (.int .i64 a)), (1, Cod.enc w), (7, Cod.enc L), (9, .sc (.int .i64 (sgnP a (((List.range i).map (partF A ws)).sum)))), (10, .sc (.int .i64 i))], objsL [], 0⟩)
          (fun i => i ≤ n) (fun i => n - i) 0 (.back rfl ?_) (Nat.zero_le _) ?_
        · simp +contextual only [go_sem, ↓reduceIte, Nat.reduceEqDiff, Nat.reduceAdd, Nat.reduceLeDiff, Nat.reduceLT, reduceCtorEq, List.length_map]
          refine ⟨?_, rfl⟩
          unfold sgnP; split <;> rfl
        · intro i hi
          rcases Nat.lt_or_ge i n with hlt | hge
          · have d1 : decide ((i : Int) < (L.length : Int)) = true := by rw [hLl]; simp; omega
            obtain ⟨x, hx, hxw⟩ := hwi i hlt
            have hLx := hLi i hlt
            have hxA := hPle i hlt
            obtain ⟨Pi, hPi⟩ : ∃ z, z = partF A ws i := ⟨_, rfl⟩
            obtain ⟨Si, hSi⟩ : ∃ z, z = ((List.range i).map (partF A ws)).sum := ⟨_, rfl⟩
            have hSn : ((List.range (i + 1)).map (partF A ws)).sum = Si + Pi := by
              rw [List.range_succ, List.map_append, List.sum_append, ← hSi, hPi]; simp
            have hSA : Si + Pi ≤ A := by
              rw [← hSn]
              have h3 := sum_range_le (partF A ws) (i := i + 1) (n := ws.length) (by omega)
              rw [parts_sum A hSp] at h3
              exact h3
            have hz : x = 0 → Pi = 0 := fun h0 => by
              rw [hPi]; exact part_zero A hSp (by omega) (by omega)
            have hAb : (A : Int) ≤ 1099511627776 := by omega
            have hsg : ∀ z : Nat, (0 ≤ a → sgnP a z = z) ∧ (a < 0 → sgnP a z = -(z : Int)) := fun z => by unfold sgnP; exact ⟨fun h => if_neg (by omega), fun h => if_pos h⟩
            rw [← hPi] at hLx hxA
            rw [← hSi]
            have o1 : (decide (a ≥ 0) && (decide (sgnP a Pi < 0) || decide (sgnP a Pi > a)) || decide (a < 0) && (decide (sgnP a Pi > 0) || decide (sgnP a Pi < a)) || x == 0 && sgnP a Pi != 0) = false := by
              rw [Bool.eq_false_iff]; intro h
              obtain ⟨k1, k2⟩ := hsg Pi
              simp only [Bool.or_eq_true, Bool.and_eq_true, decide_eq_true_eq, beq_iff_eq, bne_iff_ne, ne_eq] at h
              omega
            have w1 : IntKind.i64.wrap (sgnP a Si + sgnP a Pi) = sgnP a (Si + Pi : Nat) := by
              obtain ⟨k1, k2⟩ := hsg Pi
              obtain ⟨k3, k4⟩ := hsg Si
              obtain ⟨k5, k6⟩ := hsg (Si + Pi)
              rw [IntKind.wrap_i64]
              omega
            simp +contextual only [go_sem, ↓reduceIte, Nat.reduceEqDiff, Nat.reduceAdd, Nat.reduceLeDiff, Nat.reduceLT, reduceCtorEq, k8, List.length_map, d1, hx, hLx, List.getElem?_map, Option.map_some, Int.natCast_nonneg, Int.toNat_natCast, o1, w1]
            refine TriI.loopA hg k8 (fun k : Nat => ⟨slotsL [(0, .sc (.int .i64 a)), (1, Cod.enc w), (7, Cod.enc L), (9, .sc (.int .i64 (sgnP a (Si + Pi : Nat)))), (10, .sc (.int .i64 i)), (11, .sc (.int .i64 k))], objsL [], 0⟩)
              (fun k => k ≤ i) (fun k => i - k) 0 (.back rfl ?_) (Nat.zero_le _) ?_
            · simp +contextual only [go_sem, ↓reduceIte, Nat.reduceEqDiff, Nat.reduceAdd, Nat.reduceLeDiff, Nat.reduceLT, reduceCtorEq, List.length_map]
              rfl
            · intro k hk
              rcases Nat.lt_or_ge k i with hki | hge
              · have d2 : decide ((k : Int) < (i : Int)) = true := by simp; omega
                obtain ⟨y, hy, hyw⟩ := hwi k (by omega)
                have hLy := hLi k (by omega)
                have hyA := hPle k (by omega)
                obtain ⟨Pk, hPk⟩ : ∃ z, z = partF A ws k := ⟨_, rfl⟩
                have m1 : y < x → Pk ≤ Pi := fun h0 => by rw [hPk, hPi]; exact part_mono A hSp (by omega) (by omega)
                have m2 : x < y → Pi ≤ Pk := fun h0 => by rw [hPk, hPi]; exact part_mono A hSp (by omega) (by omega)
                have m3 : x = y → Pi ≤ Pk + 1 ∧ Pk ≤ Pi + 1 := fun h0 => by rw [hPk, hPi]; exact ⟨part_eq A ws (by omega), part_eq A ws (by omega)⟩
                rw [← hPk] at hLy hyA
                have hw := wrap_nat hki (by omega)
                have w2 : IntKind.i64.wrap (sgnP a Pi - sgnP a Pk) = sgnP a Pi - sgnP a Pk := by
                  obtain ⟨k1, k2⟩ := hsg Pi
                  obtain ⟨k3, k4⟩ := hsg Pk
                  rw [IntKind.wrap_i64]
                  omega
                obtain ⟨D, hD⟩ : ∃ D : Int, D = (Pi : Int) - Pk := ⟨_, rfl⟩
                by_cases hneg : a < 0
                · have t5 := decide_eq_true hneg
                  have w3 : IntKind.i64.wrap (0 - (sgnP a Pi - sgnP a Pk)) = D := by
                    obtain ⟨k1, k2⟩ := hsg Pi
                    obtain ⟨k3, k4⟩ := hsg Pk
                    rw [IntKind.wrap_i64]
                    omega
                  rcases Int.lt_trichotomy y x with hc | hc | hc
                  · have c0 : decide (x > y) = true := decide_eq_true (by omega)
                    have c1 : decide (D < 0) = false := decide_eq_false (by omega)
                    have c2 : decide (x < y) = false := decide_eq_false (by omega)
                    have c3 : (x == y) = false := by simp; omega
                    simp +contextual only [go_sem, ↓reduceIte, Nat.reduceEqDiff, Nat.reduceAdd, Nat.reduceLeDiff, Nat.reduceLT, reduceCtorEq, k8, List.length_map, d2, hx, hy, hLx, hLy, List.getElem?_map, Option.map_some, Int.natCast_nonneg, Int.toNat_natCast, w2, w3, t5, c0, c1, c2, c3, hw]
                    refine ⟨by rfl, by rfl, k + 1, by dsimp only; omega, by omega, .back rfl ?_⟩
                    simp +contextual only [go_sem, ↓reduceIte, Nat.reduceEqDiff, Nat.reduceAdd, Nat.reduceLeDiff, Nat.reduceLT, reduceCtorEq, List.length_map]
                    try rfl
                  · have c0 : decide (x > y) = false := decide_eq_false (by omega)
                    have c1 : decide (x < y) = false := decide_eq_false (by omega)
                    have c2 : (x == y) = true := by simp; omega
                    have c3 : decide (D < -1) = false := decide_eq_false (by omega)
                    have c4 : decide (D > 1) = false := decide_eq_false (by omega)
                    simp +contextual only [go_sem, ↓reduceIte, Nat.reduceEqDiff, Nat.reduceAdd, Nat.reduceLeDiff, Nat.reduceLT, reduceCtorEq, k8, List.length_map, d2, hx, hy, hLx, hLy, List.getElem?_map, Option.map_some, Int.natCast_nonneg, Int.toNat_natCast, w2, w3, t5, c0, c1, c2, c3, c4, hw]
                    refine ⟨by rfl, by rfl, k + 1, by dsimp only; omega, by omega, .back rfl ?_⟩
                    simp +contextual only [go_sem, ↓reduceIte, Nat.reduceEqDiff, Nat.reduceAdd, Nat.reduceLeDiff, Nat.reduceLT, reduceCtorEq, List.length_map]
                    try rfl
                  · have c0 : decide (x > y) = false := decide_eq_false (by omega)
                    have c1 : decide (x < y) = true := decide_eq_true (by omega)
                    have c2 : decide (D > 0) = false := decide_eq_false (by omega)
                    have c3 : (x == y) = false := by simp; omega
                    simp +contextual only [go_sem, ↓reduceIte, Nat.reduceEqDiff, Nat.reduceAdd, Nat.reduceLeDiff, Nat.reduceLT, reduceCtorEq, k8, List.length_map, d2, hx, hy, hLx, hLy, List.getElem?_map, Option.map_some, Int.natCast_nonneg, Int.toNat_natCast, w2, w3, t5, c0, c1, c2, c3, hw]
                    refine ⟨by rfl, by rfl, k + 1, by dsimp only; omega, by omega, .back rfl ?_⟩
                    simp +contextual only [go_sem, ↓reduceIte, Nat.reduceEqDiff, Nat.reduceAdd, Nat.reduceLeDiff, Nat.reduceLT, reduceCtorEq, List.length_map]
                    try rfl
                · have t5 := decide_eq_false hneg
                  have w2 : IntKind.i64.wrap (sgnP a Pi - sgnP a Pk) = D := by
                    obtain ⟨k1, k2⟩ := hsg Pi
                    obtain ⟨k3, k4⟩ := hsg Pk
                    rw [IntKind.wrap_i64]
                    omega
                  rcases Int.lt_trichotomy y x with hc | hc | hc
                  · have c0 : decide (x > y) = true := decide_eq_true (by omega)
                    have c1 : decide (D < 0) = false := decide_eq_false (by omega)
                    have c2 : decide (x < y) = false := decide_eq_false (by omega)
                    have c3 : (x == y) = false := by simp; omega
                    simp +contextual only [go_sem, ↓reduceIte, Nat.reduceEqDiff, Nat.reduceAdd, Nat.reduceLeDiff, Nat.reduceLT, reduceCtorEq, k8, List.length_map, d2, hx, hy, hLx, hLy, List.getElem?_map, Option.map_some, Int.natCast_nonneg, Int.toNat_natCast, w2, t5, c0, c1, c2, c3, hw]
                    refine ⟨by rfl, by rfl, k + 1, by dsimp only; omega, by omega, .back rfl ?_⟩
                    simp +contextual only [go_sem, ↓reduceIte, Nat.reduceEqDiff, Nat.reduceAdd, Nat.reduceLeDiff, Nat.reduceLT, reduceCtorEq, List.length_map]
                    try rfl
                  · have c0 : decide (x > y) = false := decide_eq_false (by omega)
                    have c1 : decide (x < y) = false := decide_eq_false (by omega)
                    have c2 : (x == y) = true := by simp; omega
                    have c3 : decide (D < -1) = false := decide_eq_false (by omega)
                    have c4 : decide (D > 1) = false := decide_eq_false (by omega)
                    simp +contextual only [go_sem, ↓reduceIte, Nat.reduceEqDiff, Nat.reduceAdd, Nat.reduceLeDiff, Nat.reduceLT, reduceCtorEq, k8, List.length_map, d2, hx, hy, hLx, hLy, List.getElem?_map, Option.map_some, Int.natCast_nonneg, Int.toNat_natCast, w2, t5, c0, c1, c2, c3, c4, hw]
                    refine ⟨by rfl, by rfl, k + 1, by dsimp only; omega, by omega, .back rfl ?_⟩
                    simp +contextual only [go_sem, ↓reduceIte, Nat.reduceEqDiff, Nat.reduceAdd, Nat.reduceLeDiff, Nat.reduceLT, reduceCtorEq, List.length_map]
                    try rfl
                  · have c0 : decide (x > y) = false := decide_eq_false (by omega)
                    have c1 : decide (x < y) = true := decide_eq_true (by omega)
                    have c2 : decide (D > 0) = false := decide_eq_false (by omega)
                    have c3 : (x == y) = false := by simp; omega
                    simp +contextual only [go_sem, ↓reduceIte, Nat.reduceEqDiff, Nat.reduceAdd, Nat.reduceLeDiff, Nat.reduceLT, reduceCtorEq, k8, List.length_map, d2, hx, hy, hLx, hLy, List.getElem?_map, Option.map_some, Int.natCast_nonneg, Int.toNat_natCast, w2, t5, c0, c1, c2, c3, hw]
                    refine ⟨by rfl, by rfl, k + 1, by dsimp only; omega, by omega, .back rfl ?_⟩
                    simp +contextual only [go_sem, ↓reduceIte, Nat.reduceEqDiff, Nat.reduceAdd, Nat.reduceLeDiff, Nat.reduceLT, reduceCtorEq, List.length_map]
                    try rfl
              · have e : k = i := by omega
                subst e
                have d2 : decide ((k : Int) < (k : Int)) = false := by simp
                have hw := wrap_nat hlt (by omega)
                simp +contextual only [go_sem, ↓reduceIte, Nat.reduceEqDiff, Nat.reduceAdd, Nat.reduceLeDiff, Nat.reduceLT, reduceCtorEq, k8, d2, hw]
                refine ⟨k + 1, by dsimp only; omega, by omega, .back rfl ?_⟩
                simp +contextual only [go_sem, ↓reduceIte, Nat.reduceEqDiff, Nat.reduceAdd, Nat.reduceLeDiff, Nat.reduceLT, reduceCtorEq, List.length_map, ← hSn]
          · have e : i = n := by omega
            subst e
            have d1 : decide ((i : Int) < (L.length : Int)) = false := by rw [hLl]; simp
            have e1 : sgnP a ((List.range i).map (partF A ws)).sum = a := by
              have := parts_sum A hSp
              rw [hwl] at this
              rw [this]; unfold sgnP; split <;> omega
            simp +contextual only [go_sem, ↓reduceIte, Nat.reduceEqDiff, Nat.reduceAdd, Nat.reduceLeDiff, Nat.reduceLT, reduceCtorEq, k8, List.length_map, d1, e1, eq_self, h13]
    · rintro i b x xs hd hlt hx ⟨ha, hany⟩
      have hw := wrap_nat hlt (by omega)
      rw [List.all_cons] at ha
      rw [List.any_cons] at hany
      have hlt2 : decide ((i : Int) < (w.length : Int)) = true := by simp; omega
      cases hk : (decide (x < 0) || decide (x > 1099511627776)) with
      | true =>
        simp +contextual only [go_sem, ↓reduceIte, Nat.reduceEqDiff, Nat.reduceAdd, Nat.reduceLeDiff, Nat.reduceLT, reduceCtorEq, k8, List.length_map, hlt2, hx, List.getElem?_map, Option.map_some, Int.natCast_nonneg, Int.toNat_natCast, hk, h13]
      | false =>
        simp +contextual only [go_sem, ↓reduceIte, Nat.reduceEqDiff, Nat.reduceAdd, Nat.reduceLeDiff, Nat.reduceLT, reduceCtorEq, k8, List.length_map, hlt2, hx, List.getElem?_map, Option.map_some, Int.natCast_nonneg, Int.toNat_natCast, hk, h13, hw]
        have hxk : okW x = true := by
          simp only [Bool.or_eq_false_iff, decide_eq_false_iff_not] at hk
          exact okW_iff.2 (by omega)
        rw [hxk, Bool.true_and] at ha
        refine ⟨(b || decide (x > 0)), ⟨ha, by rw [hany, Bool.or_assoc]⟩, .back rfl ?_⟩
        simp +contextual only [go_sem, ↓reduceIte, Nat.reduceEqDiff, Nat.reduceAdd, Nat.reduceLeDiff, Nat.reduceLT, reduceCtorEq, List.length_map]
        try rfl
end Go.Proofs.YtfmeplnoikfndaaDoor
