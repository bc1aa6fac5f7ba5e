/- Records, the reference: events by their numbers, of a row in order. -/
import Derived.Test.YtoccifhckpjfaaaRec37k
namespace Go.Proofs.Ytoccifhckpjfaaa
set_option linter.all false
open Go.Idl
set_option maxHeartbeats 16000000
set_option maxRecDepth 100000
attribute [local go_sem] Try.underlying3 Try.underlying5 Try.underlying9 Try.underlying4 Try.underlying30 Try.underlying22 Try.underlying25
def srtB : List EvD → Bool
  | x :: y :: l => decide (x.seq < y.seq) && srtB (y :: l)
  | _ => true
theorem srtB_pair : ∀ {l : List EvD}, srtB l = true → l.Pairwise (fun a b => a.seq < b.seq)
  | [], _ => .nil
  | [x], _ => by simp
  | x :: y :: l, h => by
    rw [srtB, Bool.and_eq_true, decide_eq_true_eq] at h
    have ih := srtB_pair h.2
    refine List.pairwise_cons.2 ⟨fun z hz => ?_, ih⟩
    rcases List.mem_cons.1 hz with rfl | hz
    · exact h.1
    · have := (List.pairwise_cons.1 ih).1 z hz; have := h.1; omega
theorem srtB_of : ∀ {l : List EvD}, l.Pairwise (fun a b => a.seq < b.seq) → srtB l = true
  | [], _ => rfl
  | [x], _ => rfl
  | x :: y :: l, h => by
    rw [srtB, Bool.and_eq_true, decide_eq_true_eq]
    exact ⟨(List.pairwise_cons.1 h).1 y (by simp), srtB_of (List.pairwise_cons.1 h).2⟩
abbrev SDist : List V → Option V := FT fun (t : List EvD × Unit) => if t.1.length ≤ 100000 ∧ srtB t.1 = true ∧ keysB t.1 = true then some (t.1, (0 : Int)) else none
theorem con45 {Φ : Specs} (hg : Idl.Good Try.prog Φ) (h26 : Φ 26 = some SSame) : Contract Try.prog 45 SDist := by
  refine conT hg k45 ic45 (by decide) fun C t r h => ?_
  obtain ⟨l, u⟩ := t
  dsimp only at h
  by_cases hp : l.length ≤ 100000 ∧ srtB l = true ∧ keysB l = true
  case neg => rw [if_neg hp] at h; cases h
  rw [if_pos hp] at h
  obtain ⟨hl, hsr, hky⟩ := hp
  cases h
  have hpair := srtB_pair hsr
  rw [keysB_iff] at hky
  simp +contextual only [go_sem, ↓reduceIte, Nat.reduceEqDiff, Nat.reduceAdd, Nat.reduceLeDiff, Nat.reduceLT, reduceCtorEq, c45, k45]
  refine TriI.loopL hg k45 l (fun i (a : List EvD) => ⟨slotsL [(0, Cod.enc l), (2, .sc (.slice none 0 0)), (3, .sc (.int .i64 0)), (4, .own 0 0 a.length), (12, Cod.enc l), (13, .sc (.int .i64 l.length)), (14, .sc (.int .i64 i))], objsL [.live 10 (a.map Cod.enc) true], 1⟩)
    (fun xs a => l = a ++ xs) [] (.ren [none] rfl rfl 0 ?_) rfl ?_ ?_
  · simp +contextual only [go_sem, ↓reduceIte, Nat.reduceEqDiff, Nat.reduceAdd, Nat.reduceLeDiff, Nat.reduceLT, reduceCtorEq, List.length_map, List.map_nil, List.length_nil]
    rfl
  · rintro a ha
    rw [List.append_nil] at ha
    subst ha
    simp +contextual only [go_sem, ↓reduceIte, Nat.reduceEqDiff, Nat.reduceAdd, Nat.reduceLeDiff, Nat.reduceLT, reduceCtorEq, k45, Int.lt_irrefl, decide_false]
    refine TriI.loopL hg k45 l (fun i (_ : Unit) => ⟨slotsL [(2, .sc (.slice none 0 0)), (3, .sc (.int .i64 0)), (4, .own 0 0 l.length), (58, .sc (.int .i64 l.length)), (59, .sc (.int .i64 i))], objsL [.live 10 (l.map Cod.enc) true], 1⟩)
      (fun _ _ => True) () (.ren [some 0] rfl rfl 0 ?_) trivial ?_ ?_
    · simp +contextual only [go_sem, ↓reduceIte, Nat.reduceEqDiff, Nat.reduceAdd, Nat.reduceLeDiff, Nat.reduceLT, reduceCtorEq, List.length_map, low_evs]
      rfl
    · rintro _ _
      have hT : (l.map Cod.enc).take l.length = l.map Cod.enc := List.take_of_length_le (by simp)
      simp +contextual only [go_sem, ↓reduceIte, Nat.reduceEqDiff, Nat.reduceAdd, Nat.reduceLeDiff, Nat.reduceLT, reduceCtorEq, k45, Int.lt_irrefl, decide_false, isF_evs, hT, decL_enc Cod.dec_enc, List.length_map, Nat.zero_add, Nat.le_refl, List.drop_zero]
    · rintro i _ x xs hd hlt hx _
      have hw := wrap_nat hlt (by omega)
      simp +contextual only [go_sem, ↓reduceIte, Nat.reduceEqDiff, Nat.reduceAdd, Nat.reduceLeDiff, Nat.reduceLT, reduceCtorEq, k45, lt_dec hlt]
      refine TriI.loopA hg k45 (fun _ : Unit => ⟨slotsL [(2, .sc (.slice none 0 0)), (3, .sc (.int .i64 0)), (4, .own 0 0 l.length), (11, .sc (.int .i64 i)), (58, .sc (.int .i64 l.length)), (59, .sc (.int .i64 i))], objsL [.live 10 (l.map Cod.enc) true], 1⟩)
        (fun _ => True) (fun _ => 0) () (.ren [some 0] rfl rfl 0 ?_) trivial ?_
      · simp +contextual only [go_sem, ↓reduceIte, Nat.reduceEqDiff, Nat.reduceAdd, Nat.reduceLeDiff, Nat.reduceLT, reduceCtorEq, low_evs]
      · rintro _ _
        rcases Nat.eq_zero_or_pos i with h0 | h0
        · subst h0
          have hg0 : decide (((0 : Nat) : Int) > 0) = false := by simp
          simp +contextual only [go_sem, ↓reduceIte, Nat.reduceEqDiff, Nat.reduceAdd, Nat.reduceLeDiff, Nat.reduceLT, reduceCtorEq, k45, hg0, hw]
          exact ⟨by rfl, (), trivial, .back rfl (by simp +contextual only [go_sem, ↓reduceIte, Nat.reduceEqDiff, Nat.reduceAdd, Nat.reduceLeDiff, Nat.reduceLT, reduceCtorEq, low_evs])⟩
        · have hg1 : decide (((i : Nat) : Int) > 0) = true := by simp; omega
          obtain ⟨y, hy⟩ : ∃ y, l[i - 1]? = some y := ⟨l[i - 1]'(by omega), by simp⟩
          have hyx : y.seq < x.seq := by
            obtain ⟨a1, a2⟩ := List.getElem?_eq_some_iff.1 hx
            obtain ⟨b1, b2⟩ := List.getElem?_eq_some_iff.1 hy
            have := List.pairwise_iff_getElem.1 hpair (i - 1) i b1 a1 (by omega)
            rw [a2, b2] at this; exact this
          have hd2 : decide (y.seq > x.seq) = false := by simp; omega
          have wm := wrapM (i := i) h0 (by omega)
          have n1 : ((i - 1 : Nat) : Int) < ((l.length : Nat) : Int) := by omega
          have n2 : ((i : Nat) : Int) < ((l.length : Nat) : Int) := by omega
          simp +contextual only [go_sem, ↓reduceIte, Nat.reduceEqDiff, Nat.reduceAdd, Nat.reduceLeDiff, Nat.reduceLT, reduceCtorEq, k45, hg1, wm, n1, n2, hx, hy, hd2, hw, List.length_map, List.getElem?_map, Option.map_some, Int.natCast_nonneg, Int.toNat_natCast, Nat.zero_add]
          exact ⟨by rfl, (), trivial, .back rfl (by simp +contextual only [go_sem, ↓reduceIte, Nat.reduceEqDiff, Nat.reduceAdd, Nat.reduceLeDiff, Nat.reduceLT, reduceCtorEq, low_evs])⟩
  · rintro i a x xs hd hlt hx ha
    have hw := wrap_nat hlt (by omega)
    have hia := drop_pre hd ha
    obtain ⟨x0, hx0⟩ : ∃ x0, l[0]? = some x0 := ⟨l[0]'(by omega), by simp⟩
    have hk := hky x x0 (List.mem_of_getElem? hx) (List.mem_of_getElem? hx0)
    have hk1 : decide (x.station = x0.station) = true := decide_eq_true hk.1
    have hk2 : decide (x.txn = x0.txn) = true := decide_eq_true hk.2
    have hax : ∀ y, y ∈ a → y.seq < x.seq := fun y hy => by
      rw [ha] at hpair
      exact (List.pairwise_append.1 hpair).2.2 y hy x (by simp)
    have b3 : (a.length + 1) * 120 ≤ 68719476736 := by omega
    have b4 : a.length + 1 ≤ 4294967296 := by omega
    simp +contextual only [go_sem, ↓reduceIte, Nat.reduceEqDiff, Nat.reduceAdd, Nat.reduceLeDiff, Nat.reduceLT, reduceCtorEq, k45, lt_dec hlt, hx, hx0, hk1, hk2, Bool.not_true, List.length_map, List.getElem?_map, Option.map_some, Int.natCast_nonneg, Int.toNat_natCast, Int.toNat_zero, Int.le_refl]
    refine ⟨by rfl, ?_⟩
    refine TriI.loopL hg k45 a (fun j (_ : Unit) => ⟨slotsL [(0, Cod.enc l), (2, .sc (.slice none 0 0)), (3, .sc (.int .i64 0)), (4, .own 0 0 a.length), (6, .ref 1 0 0), (7, .sc (.bool false)), (12, Cod.enc l), (13, .sc (.int .i64 l.length)), (14, .sc (.int .i64 i)), (34, .own 0 0 a.length), (35, .sc (.int .i64 a.length)), (36, .sc (.int .i64 j))], objsL [.live 10 (a.map Cod.enc) true, .live 10 [Cod.enc x] true], 2⟩)
      (fun _ _ => True) () (.back rfl ?_) trivial ?_ ?_
    · simp +contextual only [go_sem, ↓reduceIte, Nat.reduceEqDiff, Nat.reduceAdd, Nat.reduceLeDiff, Nat.reduceLT, reduceCtorEq, List.length_map, low_evs]
      rfl
    · rintro _ _
      simp +contextual only [go_sem, ↓reduceIte, Nat.reduceEqDiff, Nat.reduceAdd, Nat.reduceLeDiff, Nat.reduceLT, reduceCtorEq, k45, Int.lt_irrefl, decide_false, hw, b3, b4, okE, Bool.not_false, List.length_map, List.drop_zero, Nat.zero_add, true_and, and_true]
      refine ⟨a ++ [x], by rw [ha]; simp, .ren [some 3] rfl rfl 0 ?_⟩
      simp +contextual only [go_sem, ↓reduceIte, Nat.reduceEqDiff, Nat.reduceAdd, Nat.reduceLeDiff, Nat.reduceLT, reduceCtorEq, List.map_append, List.map_cons, List.map_nil, List.length_append, List.length_cons, List.length_nil, List.all_append, low_evs, Nat.zero_add]
    · rintro j _ y ys hd2 hlt2 hy _
      have hw2 := wrap_nat hlt2 (by omega)
      have hyx : (y.seq == x.seq) = false := by have := hax y (List.mem_of_getElem? hy); simp; omega
      have n1 : ((j : Nat) : Int) < ((a.length : Nat) : Int) := by omega
      simp +contextual only [go_sem, ↓reduceIte, Nat.reduceEqDiff, Nat.reduceAdd, Nat.reduceLeDiff, Nat.reduceLT, reduceCtorEq, k45, lt_dec hlt2, hw2, hy, hyx, n1, List.length_map, List.getElem?_map, Option.map_some, Int.natCast_nonneg, Int.toNat_natCast, Nat.zero_add]
      refine ⟨(), trivial, .back rfl ?_⟩
      simp +contextual only [go_sem, ↓reduceIte, Nat.reduceEqDiff, Nat.reduceAdd, Nat.reduceLeDiff, Nat.reduceLT, reduceCtorEq, low_evs]
end Go.Proofs.Ytoccifhckpjfaaa
