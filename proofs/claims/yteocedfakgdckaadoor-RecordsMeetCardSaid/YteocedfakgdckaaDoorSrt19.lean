/- A stable sort of a row that stands in order: nothing is changed. -/
import Derived.Test.YteocedfakgdckaaDoorCodes
namespace Go.Proofs.YteocedfakgdckaaDoor
set_option linter.all false
open Go.Idl
set_option maxHeartbeats 8000000
set_option maxRecDepth 100000
structure Els (k : Nat) (h : Nat → List V) : Prop where
  len : ∀ x, (h x).length = k
  ok : ∀ x, (h x).all V.cellOk = true
  fr : ∀ x, (h x).all V.isFc = true
theorem Els.take {k : Nat} {h : Nat → List V} (e : Els k h) (x : Nat) : (h x).take k = h x := List.take_of_length_le (by rw [e.len]; exact Nat.le_refl _)
def CmpT (P : Program) (g : FuncId) (h : Nat → List V) (c : Nat → Nat → Int) : Prop := ∀ (x y : Nat) (C : Ctx) (s : SF) (K : V → SF → Prop), K (.sc (.int .i64 (c x y))) s → CallT P C g [.agg (h x), .agg (h y)] s K
abbrev row (h : Nat → List V) (l : List Nat) : List V := l.map fun x => .agg (h x)
theorem gr (h : Nat → List V) {N p : Nat} (hp : p < N) : (row h (List.range N))[p]? = some (.agg (h p)) := by simp [row, hp]
theorem CallT.heap {P : Program} {C : Ctx} {f : FuncId} {vs : List V} {s : SF} {K : V → SF → Prop} {H' : Heap} (hk : K (.tup []) ⟨s.τ, H', s.n⟩) (h : CallT P C f vs s fun v s' => v = .tup [] ∧ s'.H = H') : CallT P C f vs s K := by
  refine ⟨h.1, fun tm w γ I args h1 h2 h3 => (h.2 tm w γ I args h1 h2 h3).mono ?_⟩
  rintro e w' ⟨u, v, s', e1, ⟨rfl, rfl⟩, γ', I', hS, hr⟩
  exact ⟨u, .tup [], ⟨s.τ, s'.H, s.n⟩, e1, hk, γ', I', hS, hr⟩
theorem wrapP {i : Nat} (h : i < 4611686018427387904) : IntKind.i64.wrap ((i : Int) + 1) = ((i + 1 : Nat) : Int) := by rw [IntKind.wrap_i64]; omega
theorem wrapM {i : Nat} (h0 : 0 < i) (h : i < 4611686018427387904) : IntKind.i64.wrap ((i : Int) - 1) = ((i - 1 : Nat) : Int) := by rw [IntKind.wrap_i64]; omega
theorem wrapA {i j : Nat} (h : i + j < 9223372036854775808) : IntKind.i64.wrap ((i : Int) + (j : Int)) = ((i + j : Nat) : Int) := by rw [IntKind.wrap_i64]; omega
theorem wrapS {i j : Nat} (h : j ≤ i) (hi : i < 9223372036854775808) : IntKind.i64.wrap ((i : Int) - (j : Int)) = ((i - j : Nat) : Int) := by rw [IntKind.wrap_i64]; omega
attribute [local go_sem] Tryd.underlying3 Tryd.underlying148 Tryd.underlying4
theorem halfV {i : Nat} (h : i < 9223372036854775808) : IntKind.i64.wrap ((IntKind.u64.wrap ((i : Nat) : Int)).fdiv (2 ^ (min (Int.toNat 1) 64))) = ((i / 2 : Nat) : Int) := by
  have h1 : IntKind.u64.wrap ((i : Nat) : Int) = ((i : Nat) : Int) := by simp [IntKind.wrap, IntKind.bits, IntKind.signed]; omega
  have h2 : (2 : Int) ^ (min (Int.toNat 1) 64) = 2 := by decide
  rw [h1, h2, IntKind.wrap_i64, Int.fdiv_eq_ediv_of_nonneg _ (by decide)]
  omega
theorem half {i j : Nat} (h : i < j) (hj : j < 4611686018427387904) : ∃ p, i ≤ p ∧ p < j ∧ IntKind.i64.wrap ((IntKind.u64.wrap ((i + j : Nat) : Int)).fdiv (2 ^ (min (Int.toNat 1) 64))) = ((p : Nat) : Int) := ⟨(i + j) / 2, by omega, by omega, halfV (by omega)⟩
theorem one_pos : ¬ (1 : Int) < 0 := by decide
theorem ctIns19 {Φ : Specs} (hg : Idl.Good Tryd.prog Φ) {g : FuncId} {h : Nat → List V} {c : Nat → Nat → Int} (e : Els 10 h) (hc : CmpT Tryd.prog g h c) {N : Nat} (hbig : N < 1152921504606846976) (hs : ∀ x y, x < y → y < N → ¬ c y x < 0) {H : Heap} {id : Nat} (hH : H id = .live 10 (row h (List.range N)) true)
    {C : Ctx} {τ : Nat → V} {n a b : Nat} (hab : a ≤ b) (hbN : b ≤ N) {Q : V → SF → Prop} (hk : Q (.tup []) ⟨τ, H, n⟩) :
    CallT Tryd.prog C 85 [.own id 0 N, .sc (.int .i64 (a : Nat)), .sc (.int .i64 (b : Nat)), .sc (.func (.func g) #[] #[])] ⟨τ, H, n⟩ Q := by
  refine CallT.heap hk ?_
  refine CallT.of_walk hg k85 ic85 (by simp) fun C1 hlow1 => ?_
  have hwa := wrapP (i := a) (by omega)
  simp +contextual only [go_sem, ↓reduceIte, Nat.reduceEqDiff, Nat.reduceAdd, Nat.reduceLeDiff, Nat.reduceLT, reduceCtorEq, c85, k85, hwa]
  refine TriI.loopA hg k85 (fun i : Nat => ⟨slotsL [(0, .own id 0 N), (1, .sc (.int .i64 (a : Nat))), (2, .sc (.int .i64 (b : Nat))), (3, .sc (.func (.func g) #[] #[])), (8, .sc (.int .i64 (i : Nat)))], H, n⟩) (fun i => a < i ∧ i ≤ b + 1) (fun i => b - i) (a + 1) (.slots ?_) ⟨by omega, by omega⟩ ?_
  · simp +contextual only [go_sem, ↓reduceIte, Nat.reduceEqDiff, Nat.reduceAdd, Nat.reduceLeDiff, Nat.reduceLT, reduceCtorEq]
  · rintro i ⟨h1, h2⟩
    rcases Nat.lt_or_ge i b with hib | hib
    · have hli : decide (((i : Nat) : Int) < ((b : Nat) : Int)) = true := by simp; omega
      simp +contextual only [go_sem, ↓reduceIte, Nat.reduceEqDiff, Nat.reduceAdd, Nat.reduceLeDiff, Nat.reduceLT, reduceCtorEq, k85, hli]
      refine TriI.loopA hg k85 (fun _ : Unit => ⟨slotsL [(0, .own id 0 N), (1, .sc (.int .i64 (a : Nat))), (2, .sc (.int .i64 (b : Nat))), (3, .sc (.func (.func g) #[] #[])), (8, .sc (.int .i64 (i : Nat))), (9, .sc (.int .i64 (i : Nat)))], H, n⟩) (fun _ => True) (fun _ => 0) () (.slots ?_) trivial ?_
      · simp +contextual only [go_sem, ↓reduceIte, Nat.reduceEqDiff, Nat.reduceAdd, Nat.reduceLeDiff, Nat.reduceLT, reduceCtorEq]
      · intro _ _
        have hgt : decide (((i : Nat) : Int) > ((a : Nat) : Int)) = true := by simp; omega
        have b1 : ((i : Nat) : Int) < ((N : Nat) : Int) := by omega
        have b2 : ((i - 1 : Nat) : Int) < ((N : Nat) : Int) := by omega
        have wm := wrapM (i := i) (by omega) (by omega)
        have wi := wrapP (i := i) (by omega)
        have gx := gr h (N := N) (p := i) (by omega)
        have gy := gr h (N := N) (p := i - 1) (by omega)
        simp +contextual only [go_sem, ↓reduceIte, Nat.reduceEqDiff, Nat.reduceAdd, Nat.reduceLeDiff, Nat.reduceLT, reduceCtorEq, k85, hgt, b1, b2, wm, gx, gy, hH, Nat.zero_add, e.len, e.take, List.drop_zero, Nat.le_refl, Int.natCast_nonneg, Int.toNat_natCast]
        refine ⟨rfl, (by simp [apartI, apartAll, clash, List.range, List.range.loop] <;> decide), hc i (i - 1) _ _ _ ?_⟩
        have hd : decide (c i (i - 1) < (0 : Int)) = false := decide_eq_false (hs _ _ (by omega) (by omega))
        simp +contextual only [go_sem, ↓reduceIte, Nat.reduceEqDiff, Nat.reduceAdd, Nat.reduceLeDiff, Nat.reduceLT, reduceCtorEq, k85, hd, wi]
        refine ⟨i + 1, by dsimp only; omega, ⟨by omega, by omega⟩, .slots ?_⟩
        simp +contextual only [go_sem, ↓reduceIte, Nat.reduceEqDiff, Nat.reduceAdd, Nat.reduceLeDiff, Nat.reduceLT, reduceCtorEq]
    · have hli : decide (((i : Nat) : Int) < ((b : Nat) : Int)) = false := by simp; omega
      simp +contextual only [go_sem, ↓reduceIte, Nat.reduceEqDiff, Nat.reduceAdd, Nat.reduceLeDiff, Nat.reduceLT, reduceCtorEq, k85, hli]
theorem ctSym19 {Φ : Specs} (hg : Idl.Good Tryd.prog Φ) (hsy : Φ 86 = none) {g : FuncId} {h : Nat → List V} {c : Nat → Nat → Int} (e : Els 10 h) (hc : CmpT Tryd.prog g h c) {N : Nat} (hbig : N < 1152921504606846976) (hs : ∀ x y, x < y → y < N → ¬ c y x < 0) {H : Heap} {id : Nat} (hH : H id = .live 10 (row h (List.range N)) true) :
    ∀ (k : Nat) {C : Ctx} {τ : Nat → V} {n a m b : Nat} {Q : V → SF → Prop}, b - a ≤ k → a < m → m < b → b ≤ N → Q (.tup []) ⟨τ, H, n⟩ →
    CallT Tryd.prog C 86 [.own id 0 N, .sc (.int .i64 (a : Nat)), .sc (.int .i64 (m : Nat)), .sc (.int .i64 (b : Nat)), .sc (.func (.func g) #[] #[])] ⟨τ, H, n⟩ Q := by
  intro k
  induction k with
  | zero => intro C τ n a m b Q hk h1 h2; omega
  | succ k ih =>
  intro C τ n a m b Q hk ham hmb hbN hQ
  refine CallT.heap hQ ?_
  refine CallT.of_walk hg k86 ic86 (by simp) fun C1 hlow1 => ?_
  have gm := gr h (N := N) (p := m) (by omega)
  have ga := gr h (N := N) (p := a) (by omega)
  have bm : ((m : Nat) : Int) < ((N : Nat) : Int) := by omega
  have ba : ((a : Nat) : Int) < ((N : Nat) : Int) := by omega
  have w1 := wrapS (i := m) (j := a) (by omega) (by omega)
  have w2 := wrapS (i := b) (j := m) (by omega) (by omega)
  by_cases hA1 : m = a + 1
  · have hd1 : (((m - a : Nat) : Int) == 1) = true := by simp; omega
    simp +contextual only [go_sem, ↓reduceIte, Nat.reduceEqDiff, Nat.reduceAdd, Nat.reduceLeDiff, Nat.reduceLT, reduceCtorEq, c86, k86, w1, hd1]
    refine TriI.loopA hg k86 (fun j : Nat => ⟨slotsL [(0, .own id 0 N), (1, .sc (.int .i64 (a : Nat))), (2, .sc (.int .i64 (m : Nat))), (3, .sc (.int .i64 (b : Nat))), (4, .sc (.func (.func g) #[] #[])), (10, .sc (.int .i64 (m : Nat))), (11, .sc (.int .i64 (j : Nat)))], H, n⟩) (fun j => m ≤ j ∧ j ≤ b) (fun j => j - m) b (.slots ?_) ⟨by omega, Nat.le_refl _⟩ ?_
    · simp +contextual only [go_sem, ↓reduceIte, Nat.reduceEqDiff, Nat.reduceAdd, Nat.reduceLeDiff, Nat.reduceLT, reduceCtorEq]
    · rintro j ⟨h1, h2⟩
      rcases Nat.lt_or_ge m j with hij | hij
      · have hd2 : decide (((m : Nat) : Int) < ((j : Nat) : Int)) = true := by simp; omega
        have wij := wrapA (i := m) (j := j) (by omega)
        obtain ⟨p, hp1, hp2, hpp⟩ := half hij (by omega)
        have bp : ((p : Nat) : Int) < ((N : Nat) : Int) := by omega
        have gp := gr h (N := N) (p := p) (by omega)
        simp +contextual only [go_sem, ↓reduceIte, Nat.reduceEqDiff, Nat.reduceAdd, Nat.reduceLeDiff, Nat.reduceLT, reduceCtorEq, k86, hd2, hpp, wij, one_pos, not_false_eq_true, bp, ba, gp, ga, hH, Nat.zero_add, e.len, e.take, List.drop_zero, Nat.le_refl, Int.natCast_nonneg, Int.toNat_natCast]
        refine ⟨rfl, (by simp [apartI, apartAll, clash, List.range, List.range.loop] <;> decide), hc p a _ _ _ ?_⟩
        have hd : decide (c p a < (0 : Int)) = false := decide_eq_false (hs _ _ (by omega) (by omega))
        simp +contextual only [go_sem, ↓reduceIte, Nat.reduceEqDiff, Nat.reduceAdd, Nat.reduceLeDiff, Nat.reduceLT, reduceCtorEq, k86, hd]
        refine ⟨p, by dsimp only; omega, ⟨hp1, by omega⟩, .slots ?_⟩
        simp +contextual only [go_sem, ↓reduceIte, Nat.reduceEqDiff, Nat.reduceAdd, Nat.reduceLeDiff, Nat.reduceLT, reduceCtorEq]
      · obtain rfl : j = m := by omega
        have hd2 : decide (((j : Nat) : Int) < ((j : Nat) : Int)) = false := by simp
        simp +contextual only [go_sem, ↓reduceIte, Nat.reduceEqDiff, Nat.reduceAdd, Nat.reduceLeDiff, Nat.reduceLT, reduceCtorEq, k86, hd2]
        refine TriI.loopA hg k86 (fun _ : Unit => ⟨slotsL [(0, .own id 0 N), (1, .sc (.int .i64 (a : Nat))), (2, .sc (.int .i64 (j : Nat))), (3, .sc (.int .i64 (b : Nat))), (4, .sc (.func (.func g) #[] #[])), (10, .sc (.int .i64 (j : Nat))), (13, .sc (.int .i64 (a : Nat)))], H, n⟩) (fun _ => True) (fun _ => 0) () (.slots ?_) trivial ?_
        · simp +contextual only [go_sem, ↓reduceIte, Nat.reduceEqDiff, Nat.reduceAdd, Nat.reduceLeDiff, Nat.reduceLT, reduceCtorEq]
        · intro _ _
          have w3 : IntKind.i64.wrap (((j : Nat) : Int) - 1) = ((a : Nat) : Int) := by rw [IntKind.wrap_i64]; omega
          have hd3 : decide (((a : Nat) : Int) < ((a : Nat) : Int)) = false := by simp
          simp +contextual only [go_sem, ↓reduceIte, Nat.reduceEqDiff, Nat.reduceAdd, Nat.reduceLeDiff, Nat.reduceLT, reduceCtorEq, k86, w3, hd3]
  · have hd0 : (((m - a : Nat) : Int) == 1) = false := by simp; omega
    by_cases hB1 : b = m + 1
    · have hd1 : (((b - m : Nat) : Int) == 1) = true := by simp; omega
      simp +contextual only [go_sem, ↓reduceIte, Nat.reduceEqDiff, Nat.reduceAdd, Nat.reduceLeDiff, Nat.reduceLT, reduceCtorEq, c86, k86, w1, w2, hd0, hd1]
      refine TriI.loopA hg k86 (fun i : Nat => ⟨slotsL [(0, .own id 0 N), (1, .sc (.int .i64 (a : Nat))), (2, .sc (.int .i64 (m : Nat))), (3, .sc (.int .i64 (b : Nat))), (4, .sc (.func (.func g) #[] #[])), (14, .sc (.int .i64 (i : Nat))), (15, .sc (.int .i64 (m : Nat)))], H, n⟩) (fun i => a ≤ i ∧ i ≤ m) (fun i => m - i) a (.slots ?_) ⟨Nat.le_refl _, by omega⟩ ?_
      · simp +contextual only [go_sem, ↓reduceIte, Nat.reduceEqDiff, Nat.reduceAdd, Nat.reduceLeDiff, Nat.reduceLT, reduceCtorEq]
      · rintro i ⟨h1, h2⟩
        rcases Nat.lt_or_ge i m with hij | hij
        · have hd2 : decide (((i : Nat) : Int) < ((m : Nat) : Int)) = true := by simp; omega
          have wij := wrapA (i := i) (j := m) (by omega)
          obtain ⟨p, hp1, hp2, hpp⟩ := half hij (by omega)
          have bp : ((p : Nat) : Int) < ((N : Nat) : Int) := by omega
          have gp := gr h (N := N) (p := p) (by omega)
          have wp := wrapP (i := p) (by omega)
          simp +contextual only [go_sem, ↓reduceIte, Nat.reduceEqDiff, Nat.reduceAdd, Nat.reduceLeDiff, Nat.reduceLT, reduceCtorEq, k86, hd2, hpp, wij, one_pos, not_false_eq_true, bp, bm, gp, gm, hH, Nat.zero_add, e.len, e.take, List.drop_zero, Nat.le_refl, Int.natCast_nonneg, Int.toNat_natCast]
          refine ⟨rfl, (by simp [apartI, apartAll, clash, List.range, List.range.loop] <;> decide), hc m p _ _ _ ?_⟩
          have hd : decide (c m p < (0 : Int)) = false := decide_eq_false (hs _ _ (by omega) (by omega))
          simp +contextual only [go_sem, ↓reduceIte, Nat.reduceEqDiff, Nat.reduceAdd, Nat.reduceLeDiff, Nat.reduceLT, reduceCtorEq, k86, hd, wp, Bool.not_false]
          refine ⟨p + 1, by dsimp only; omega, ⟨by omega, by omega⟩, .slots ?_⟩
          simp +contextual only [go_sem, ↓reduceIte, Nat.reduceEqDiff, Nat.reduceAdd, Nat.reduceLeDiff, Nat.reduceLT, reduceCtorEq]
        · obtain rfl : i = m := by omega
          have hd2 : decide (((i : Nat) : Int) < ((i : Nat) : Int)) = false := by simp
          simp +contextual only [go_sem, ↓reduceIte, Nat.reduceEqDiff, Nat.reduceAdd, Nat.reduceLeDiff, Nat.reduceLT, reduceCtorEq, k86, hd2]
          refine TriI.loopA hg k86 (fun _ : Unit => ⟨slotsL [(0, .own id 0 N), (1, .sc (.int .i64 (a : Nat))), (2, .sc (.int .i64 (i : Nat))), (3, .sc (.int .i64 (b : Nat))), (4, .sc (.func (.func g) #[] #[])), (14, .sc (.int .i64 (i : Nat))), (17, .sc (.int .i64 (i : Nat)))], H, n⟩) (fun _ => True) (fun _ => 0) () (.slots ?_) trivial ?_
          · simp +contextual only [go_sem, ↓reduceIte, Nat.reduceEqDiff, Nat.reduceAdd, Nat.reduceLeDiff, Nat.reduceLT, reduceCtorEq]
          · intro _ _
            have hd3 : decide (((i : Nat) : Int) > ((i : Nat) : Int)) = false := by simp
            simp +contextual only [go_sem, ↓reduceIte, Nat.reduceEqDiff, Nat.reduceAdd, Nat.reduceLeDiff, Nat.reduceLT, reduceCtorEq, k86, hd3]
    · have hd1 : (((b - m : Nat) : Int) == 1) = false := by simp; omega
      have wab := wrapA (i := a) (j := b) (by omega)
      obtain ⟨mid, hmid⟩ : ∃ u, u = (a + b) / 2 := ⟨_, rfl⟩
      have hmm := halfV (i := a + b) (by omega)
      rw [← hmid] at hmm
      have wmm := wrapA (i := mid) (j := m) (by omega)
      have wn1 : IntKind.i64.wrap (((mid + m : Nat) : Int) - 1) = ((mid + m - 1 : Nat) : Int) := by rw [IntKind.wrap_i64]; omega
      rcases Nat.lt_or_ge mid m with hmd | hmd
      · have hd2 : decide (((m : Nat) : Int) > ((mid : Nat) : Int)) = true := by simp; omega
        have wst := wrapS (i := mid + m) (j := b) (by omega) (by omega)
        simp +contextual only [go_sem, ↓reduceIte, Nat.reduceEqDiff, Nat.reduceAdd, Nat.reduceLeDiff, Nat.reduceLT, reduceCtorEq, c86, k86, w1, w2, hd0, hd1, wab, one_pos, not_false_eq_true, hmm, wmm, wn1, hd2, wst]
        refine TriI.loopA hg k86 (fun i : Nat => ⟨slotsL [(0, .own id 0 N), (1, .sc (.int .i64 (a : Nat))), (2, .sc (.int .i64 (m : Nat))), (3, .sc (.int .i64 (b : Nat))), (4, .sc (.func (.func g) #[] #[])), (18, .sc (.int .i64 (mid : Nat))), (19, .sc (.int .i64 (mid + m : Nat))), (20, .sc (.int .i64 (i : Nat))), (21, .sc (.int .i64 (mid : Nat))), (22, .sc (.int .i64 (mid + m - 1 : Nat)))], H, n⟩) (fun i => mid + m - b ≤ i ∧ i ≤ mid) (fun i => mid - i) (mid + m - b) (.slots ?_) ⟨Nat.le_refl _, by omega⟩ ?_
        · simp +contextual only [go_sem, ↓reduceIte, Nat.reduceEqDiff, Nat.reduceAdd, Nat.reduceLeDiff, Nat.reduceLT, reduceCtorEq]
        · rintro i ⟨h1, h3⟩
          rcases Nat.lt_or_ge i mid with hij | hij
          · have hd3 : decide (((i : Nat) : Int) < ((mid : Nat) : Int)) = true := by simp; omega
            have wij := wrapA (i := i) (j := mid) (by omega)
            obtain ⟨p, hp1, hp2, hpp⟩ := half hij (by omega)
            have wpc := wrapS (i := mid + m - 1) (j := p) (by omega) (by omega)
            have b1 : ((p : Nat) : Int) < ((N : Nat) : Int) := by omega
            have b2 : ((mid + m - 1 - p : Nat) : Int) < ((N : Nat) : Int) := by omega
            have gx := gr h (N := N) (p := p) (by omega)
            have gy := gr h (N := N) (p := mid + m - 1 - p) (by omega)
            simp +contextual only [go_sem, ↓reduceIte, Nat.reduceEqDiff, Nat.reduceAdd, Nat.reduceLeDiff, Nat.reduceLT, reduceCtorEq, k86, hd3, hpp, wij, wpc, one_pos, not_false_eq_true, b1, b2, gy, gx, hH, Nat.zero_add, e.len, e.take, List.drop_zero, Nat.le_refl, Int.natCast_nonneg, Int.toNat_natCast]
            refine ⟨rfl, (by simp [apartI, apartAll, clash, List.range, List.range.loop] <;> decide), hc (mid + m - 1 - p) p _ _ _ ?_⟩
            have hd : decide (c (mid + m - 1 - p) p < (0 : Int)) = false := decide_eq_false (hs _ _ (by omega) (by omega))
            have wp := wrapP (i := p) (by omega)
            simp +contextual only [go_sem, ↓reduceIte, Nat.reduceEqDiff, Nat.reduceAdd, Nat.reduceLeDiff, Nat.reduceLT, reduceCtorEq, k86, hd, wp, Bool.not_false]
            refine ⟨p + 1, by dsimp only; omega, ⟨by omega, by omega⟩, .slots ?_⟩
            simp +contextual only [go_sem, ↓reduceIte, Nat.reduceEqDiff, Nat.reduceAdd, Nat.reduceLeDiff, Nat.reduceLT, reduceCtorEq]
          · obtain rfl : i = mid := by omega
            have hd3 : decide (((i : Nat) : Int) < ((i : Nat) : Int)) = false := by simp
            have wen : IntKind.i64.wrap (((i + m : Nat) : Int) - ((i : Nat) : Int)) = ((m : Nat) : Int) := by rw [IntKind.wrap_i64]; omega
            have hr1 : decide (((i : Nat) : Int) < ((m : Nat) : Int)) = true := by simp; omega
            have hr2 : decide (((m : Nat) : Int) < ((m : Nat) : Int)) = false := by simp
            have hq1 : decide (((a : Nat) : Int) < ((i : Nat) : Int)) = true := by simp; omega
            have hz2 : decide (((m : Nat) : Int) < ((b : Nat) : Int)) = true := by simp; omega
            simp +contextual only [go_sem, ↓reduceIte, Nat.reduceEqDiff, Nat.reduceAdd, Nat.reduceLeDiff, Nat.reduceLT, reduceCtorEq, k86, Bool.false_and, Bool.true_and, hd3, wen, hr1, hr2, hq1, hz2, hsy]
            refine ih (by omega) (by omega) (by omega) (by omega) ?_
            simp +contextual only [go_sem, ↓reduceIte, Nat.reduceEqDiff, Nat.reduceAdd, Nat.reduceLeDiff, Nat.reduceLT, reduceCtorEq, k86]
      · have hd2 : decide (((m : Nat) : Int) > ((mid : Nat) : Int)) = false := by simp; omega
        simp +contextual only [go_sem, ↓reduceIte, Nat.reduceEqDiff, Nat.reduceAdd, Nat.reduceLeDiff, Nat.reduceLT, reduceCtorEq, c86, k86, w1, w2, hd0, hd1, wab, one_pos, not_false_eq_true, hmm, wmm, wn1, hd2]
        refine TriI.loopA hg k86 (fun i : Nat => ⟨slotsL [(0, .own id 0 N), (1, .sc (.int .i64 (a : Nat))), (2, .sc (.int .i64 (m : Nat))), (3, .sc (.int .i64 (b : Nat))), (4, .sc (.func (.func g) #[] #[])), (18, .sc (.int .i64 (mid : Nat))), (19, .sc (.int .i64 (mid + m : Nat))), (20, .sc (.int .i64 (i : Nat))), (21, .sc (.int .i64 (m : Nat))), (22, .sc (.int .i64 (mid + m - 1 : Nat)))], H, n⟩) (fun i => a ≤ i ∧ i ≤ m) (fun i => m - i) (a) (.slots ?_) ⟨Nat.le_refl _, by omega⟩ ?_
        · simp +contextual only [go_sem, ↓reduceIte, Nat.reduceEqDiff, Nat.reduceAdd, Nat.reduceLeDiff, Nat.reduceLT, reduceCtorEq]
        · rintro i ⟨h1, h3⟩
          rcases Nat.lt_or_ge i m with hij | hij
          · have hd3 : decide (((i : Nat) : Int) < ((m : Nat) : Int)) = true := by simp; omega
            have wij := wrapA (i := i) (j := m) (by omega)
            obtain ⟨p, hp1, hp2, hpp⟩ := half hij (by omega)
            have wpc := wrapS (i := mid + m - 1) (j := p) (by omega) (by omega)
            have b1 : ((p : Nat) : Int) < ((N : Nat) : Int) := by omega
            have b2 : ((mid + m - 1 - p : Nat) : Int) < ((N : Nat) : Int) := by omega
            have gx := gr h (N := N) (p := p) (by omega)
            have gy := gr h (N := N) (p := mid + m - 1 - p) (by omega)
            simp +contextual only [go_sem, ↓reduceIte, Nat.reduceEqDiff, Nat.reduceAdd, Nat.reduceLeDiff, Nat.reduceLT, reduceCtorEq, k86, hd3, hpp, wij, wpc, one_pos, not_false_eq_true, b1, b2, gy, gx, hH, Nat.zero_add, e.len, e.take, List.drop_zero, Nat.le_refl, Int.natCast_nonneg, Int.toNat_natCast]
            refine ⟨rfl, (by simp [apartI, apartAll, clash, List.range, List.range.loop] <;> decide), hc (mid + m - 1 - p) p _ _ _ ?_⟩
            have hd : decide (c (mid + m - 1 - p) p < (0 : Int)) = false := decide_eq_false (hs _ _ (by omega) (by omega))
            have wp := wrapP (i := p) (by omega)
            simp +contextual only [go_sem, ↓reduceIte, Nat.reduceEqDiff, Nat.reduceAdd, Nat.reduceLeDiff, Nat.reduceLT, reduceCtorEq, k86, hd, wp, Bool.not_false]
            refine ⟨p + 1, by dsimp only; omega, ⟨by omega, by omega⟩, .slots ?_⟩
            simp +contextual only [go_sem, ↓reduceIte, Nat.reduceEqDiff, Nat.reduceAdd, Nat.reduceLeDiff, Nat.reduceLT, reduceCtorEq]
          · obtain rfl : i = m := by omega
            have hd3 : decide (((i : Nat) : Int) < ((i : Nat) : Int)) = false := by simp
            have wen : IntKind.i64.wrap (((mid + i : Nat) : Int) - ((i : Nat) : Int)) = ((mid : Nat) : Int) := by rw [IntKind.wrap_i64]; omega
            have hq1 : decide (((a : Nat) : Int) < ((i : Nat) : Int)) = true := by simp; omega
            have hz1 : decide (((mid : Nat) : Int) < ((mid : Nat) : Int)) = false := by simp
            rcases Nat.lt_or_ge i mid with hq | hq
            · have hq2 : decide (((i : Nat) : Int) < ((mid : Nat) : Int)) = true := by simp; omega
              simp +contextual only [go_sem, ↓reduceIte, Nat.reduceEqDiff, Nat.reduceAdd, Nat.reduceLeDiff, Nat.reduceLT, reduceCtorEq, k86, Bool.false_and, Bool.true_and, hd3, wen, hq1, hq2, hz1, hsy]
              refine ih (by omega) (by omega) (by omega) (by omega) ?_
              simp +contextual only [go_sem, ↓reduceIte, Nat.reduceEqDiff, Nat.reduceAdd, Nat.reduceLeDiff, Nat.reduceLT, reduceCtorEq, k86, Bool.false_and, Bool.true_and, hz1]
            · have hq2 : decide (((i : Nat) : Int) < ((mid : Nat) : Int)) = false := by simp; omega
              simp +contextual only [go_sem, ↓reduceIte, Nat.reduceEqDiff, Nat.reduceAdd, Nat.reduceLeDiff, Nat.reduceLT, reduceCtorEq, k86, Bool.false_and, Bool.true_and, hd3, wen, hq1, hq2, hz1]
theorem ctStb19 {Φ : Specs} (hg : Idl.Good Tryd.prog Φ) (hin : Φ 85 = none) (hsy : Φ 86 = none) {g : FuncId} {h : Nat → List V} {c : Nat → Nat → Int} (e : Els 10 h) (hc : CmpT Tryd.prog g h c) {N : Nat} (hbig : N < 1152921504606846976) (hs : ∀ x y, x < y → y < N → ¬ c y x < 0) {H : Heap} {id : Nat} (hH : H id = .live 10 (row h (List.range N)) true)
    {C : Ctx} {τ : Nat → V} {n : Nat} {Q : V → SF → Prop} (hk : Q (.tup []) ⟨τ, H, n⟩) :
    CallT Tryd.prog C 65 [.own id 0 N, .sc (.int .i64 (N : Nat)), .sc (.func (.func g) #[] #[])] ⟨τ, H, n⟩ Q := by
  refine CallT.heap hk ?_
  refine CallT.of_walk hg k65 ic65 (by simp) fun C1 hlow1 => ?_
  simp +contextual only [go_sem, ↓reduceIte, Nat.reduceEqDiff, Nat.reduceAdd, Nat.reduceLeDiff, Nat.reduceLT, reduceCtorEq, c65, k65]
  refine TriI.loopA hg k65 (fun a : Nat => ⟨slotsL [(0, .own id 0 N), (1, .sc (.int .i64 (N : Nat))), (2, .sc (.func (.func g) #[] #[])), (6, .sc (.int .i64 20)), (7, .sc (.int .i64 (a : Nat))), (8, .sc (.int .i64 (a + 20 : Nat)))], H, n⟩) (fun a => a ≤ N) (fun a => N - a) 0 (.slots ?_) (Nat.zero_le _) ?_
  · simp +contextual only [go_sem, ↓reduceIte, Nat.reduceEqDiff, Nat.reduceAdd, Nat.reduceLeDiff, Nat.reduceLT, reduceCtorEq]
    exact ⟨rfl, rfl⟩
  · intro a ha
    rcases Nat.lt_or_ge N (a + 20) with hlt | hge
    · have hd : decide (((a + 20 : Nat) : Int) ≤ ((N : Nat) : Int)) = false := by simp; omega
      simp +contextual only [go_sem, ↓reduceIte, Nat.reduceEqDiff, Nat.reduceAdd, Nat.reduceLeDiff, Nat.reduceLT, reduceCtorEq, k65, hd, hin]
      refine ctIns19 hg e hc hbig hs hH ha (Nat.le_refl _) ?_
      refine TriI.loopA hg k65 (fun s : Nat => ⟨slotsL [(0, .own id 0 N), (1, .sc (.int .i64 (N : Nat))), (2, .sc (.func (.func g) #[] #[])), (6, .sc (.int .i64 (s : Nat)))], H, n⟩) (fun s => 0 < s ∧ s ≤ 2 * N + 20) (fun s => N - s) 20 (.slots ?_) ⟨by omega, by omega⟩ ?_
      · simp +contextual only [go_sem, ↓reduceIte, Nat.reduceEqDiff, Nat.reduceAdd, Nat.reduceLeDiff, Nat.reduceLT, reduceCtorEq]
        rfl
      · rintro s ⟨hs0, hs2⟩
        rcases Nat.lt_or_ge s N with hsN | hsN
        · have hd1 : decide (((s : Nat) : Int) < ((N : Nat) : Int)) = true := by simp; omega
          have w2 : IntKind.i64.wrap (2 * ((s : Nat) : Int)) = ((2 * s : Nat) : Int) := by rw [IntKind.wrap_i64]; omega
          have w3 : IntKind.i64.wrap (((s : Nat) : Int) * 2) = ((2 * s : Nat) : Int) := by rw [IntKind.wrap_i64]; omega
          simp +contextual only [go_sem, ↓reduceIte, Nat.reduceEqDiff, Nat.reduceAdd, Nat.reduceLeDiff, Nat.reduceLT, reduceCtorEq, k65, hd1, w2]
          refine TriI.loopA hg k65 (fun a : Nat => ⟨slotsL [(0, .own id 0 N), (1, .sc (.int .i64 (N : Nat))), (2, .sc (.func (.func g) #[] #[])), (6, .sc (.int .i64 (s : Nat))), (7, .sc (.int .i64 (a : Nat))), (8, .sc (.int .i64 (a + 2 * s : Nat)))], H, n⟩) (fun a => a ≤ N) (fun a => N - a) 0 (.slots ?_) (Nat.zero_le _) ?_
          · simp +contextual only [go_sem, ↓reduceIte, Nat.reduceEqDiff, Nat.reduceAdd, Nat.reduceLeDiff, Nat.reduceLT, reduceCtorEq, Nat.zero_add]
            rfl
          · intro a ha
            have w4 := wrapA (i := a) (j := s) (by omega)
            have w5 := wrapA (i := a + 2 * s) (j := 2 * s) (by omega)
            rcases Nat.lt_or_ge N (a + 2 * s) with hlt2 | hge2
            · have hd2 : decide (((a + 2 * s : Nat) : Int) ≤ ((N : Nat) : Int)) = false := by simp; omega
              rcases Nat.lt_or_ge (a + s) N with hmn | hmn
              · have hd3 : decide (((a + s : Nat) : Int) < ((N : Nat) : Int)) = true := by simp; omega
                simp +contextual only [go_sem, ↓reduceIte, Nat.reduceEqDiff, Nat.reduceAdd, Nat.reduceLeDiff, Nat.reduceLT, reduceCtorEq, k65, hd2, w4, hd3, hsy]
                refine ctSym19 hg hsy e hc hbig hs hH _ (Nat.le_refl _) (by omega) (by omega) (by omega) ?_
                simp +contextual only [go_sem, ↓reduceIte, Nat.reduceEqDiff, Nat.reduceAdd, Nat.reduceLeDiff, Nat.reduceLT, reduceCtorEq, k65, w3]
                refine ⟨2 * s, by dsimp only; omega, ⟨by omega, by omega⟩, .slots ?_⟩
                simp +contextual only [go_sem, ↓reduceIte, Nat.reduceEqDiff, Nat.reduceAdd, Nat.reduceLeDiff, Nat.reduceLT, reduceCtorEq]
              · have hd3 : decide (((a + s : Nat) : Int) < ((N : Nat) : Int)) = false := by simp; omega
                simp +contextual only [go_sem, ↓reduceIte, Nat.reduceEqDiff, Nat.reduceAdd, Nat.reduceLeDiff, Nat.reduceLT, reduceCtorEq, k65, hd2, w4, hd3, w3]
                refine ⟨2 * s, by dsimp only; omega, ⟨by omega, by omega⟩, .slots ?_⟩
                simp +contextual only [go_sem, ↓reduceIte, Nat.reduceEqDiff, Nat.reduceAdd, Nat.reduceLeDiff, Nat.reduceLT, reduceCtorEq]
            · have hd2 : decide (((a + 2 * s : Nat) : Int) ≤ ((N : Nat) : Int)) = true := by simp; omega
              simp +contextual only [go_sem, ↓reduceIte, Nat.reduceEqDiff, Nat.reduceAdd, Nat.reduceLeDiff, Nat.reduceLT, reduceCtorEq, k65, hd2, w2, w4, w5, hsy]
              refine ctSym19 hg hsy e hc hbig hs hH _ (Nat.le_refl _) (by omega) (by omega) hge2 ?_
              refine ⟨a + 2 * s, by dsimp only; omega, hge2, .slots ?_⟩
              simp +contextual only [go_sem, ↓reduceIte, Nat.reduceEqDiff, Nat.reduceAdd, Nat.reduceLeDiff, Nat.reduceLT, reduceCtorEq]
        · have hd1 : decide (((s : Nat) : Int) < ((N : Nat) : Int)) = false := by simp; omega
          simp +contextual only [go_sem, ↓reduceIte, Nat.reduceEqDiff, Nat.reduceAdd, Nat.reduceLeDiff, Nat.reduceLT, reduceCtorEq, k65, hd1]
    · have hd : decide (((a + 20 : Nat) : Int) ≤ ((N : Nat) : Int)) = true := by simp; omega
      have w1 : IntKind.i64.wrap (((a + 20 : Nat) : Int) + 20) = ((a + 20 + 20 : Nat) : Int) := by rw [IntKind.wrap_i64]; omega
      simp +contextual only [go_sem, ↓reduceIte, Nat.reduceEqDiff, Nat.reduceAdd, Nat.reduceLeDiff, Nat.reduceLT, reduceCtorEq, k65, hd, w1, hin]
      refine ctIns19 hg e hc hbig hs hH (by omega) hge ?_
      refine ⟨a + 20, by dsimp only; omega, hge, .slots ?_⟩
      simp +contextual only [go_sem, ↓reduceIte, Nat.reduceEqDiff, Nat.reduceAdd, Nat.reduceLeDiff, Nat.reduceLT, reduceCtorEq]
theorem ctSS19 {Φ : Specs} (hg : Idl.Good Tryd.prog Φ) (hst : Φ 65 = none) (hin : Φ 85 = none) (hsy : Φ 86 = none) {g : FuncId} {h : Nat → List V} {c : Nat → Nat → Int} (e : Els 10 h) (hc : CmpT Tryd.prog g h c) {N : Nat} (hbig : N < 1152921504606846976) (hs : ∀ x y, x < y → y < N → ¬ c y x < 0) {H : Heap} {id : Nat} (hH : H id = .live 10 (row h (List.range N)) true)
    {C : Ctx} {τ : Nat → V} {n : Nat} {Q : V → SF → Prop} (hk : Q (.tup []) ⟨τ, H, n⟩) :
    CallT Tryd.prog C 37 [.own id 0 N, .sc (.func (.func g) #[] #[])] ⟨τ, H, n⟩ Q := by
  refine CallT.heap hk ?_
  refine CallT.of_walk hg k37 ic37 (by simp) fun C1 hlow1 => ?_
  simp +contextual only [go_sem, ↓reduceIte, Nat.reduceEqDiff, Nat.reduceAdd, Nat.reduceLeDiff, Nat.reduceLT, reduceCtorEq, c37, k37, hst]
  refine ctStb19 hg hin hsy e hc hbig hs hH ?_
  simp +contextual only [go_sem, ↓reduceIte, Nat.reduceEqDiff, Nat.reduceAdd, Nat.reduceLeDiff, Nat.reduceLT, reduceCtorEq, k37]
end Go.Proofs.YteocedfakgdckaaDoor
