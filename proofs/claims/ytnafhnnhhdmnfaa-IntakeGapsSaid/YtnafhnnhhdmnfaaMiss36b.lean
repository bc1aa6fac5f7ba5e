/- The reference's missing numbers, and that both are the same. -/
import Derived.Test.YtnafhnnhhdmnfaaMiss36
namespace Go.Proofs.Ytnafhnnhhdmnfaa
set_option linter.all false
open Go.Idl
set_option maxHeartbeats 4000000
set_option maxRecDepth 100000
attribute [local go_sem] Try.underlying3 Try.underlying75 Try.underlying9 Try.underlying4 agKey

def pR (m : List EvD) (n : Nat) : Bool := m.all fun e => e.seq != (n : Int)
def topN (a : List EvD) : Nat := match a.getLast? with
  | some e => (e.seq + 1).toNat
  | none => 0
structure Asc (m : List EvD) : Prop where
  lt : m.Pairwise fun a b => a.seq < b.seq
  bnd : ∀ e ∈ m, 0 ≤ e.seq ∧ e.seq ≤ 2147483647
theorem topN_app (a : List EvD) (x : EvD) : topN (a ++ [x]) = (x.seq + 1).toNat := by simp [topN]
theorem Asc.top {m a xs : List EvD} (h : Asc m) (hm : m = a ++ xs) : ∀ e ∈ a, e.seq < topN a := by
  intro e he
  rcases List.eq_nil_or_concat a with rfl | ⟨a', y, rfl⟩
  · simp at he
  · rw [List.concat_eq_append, topN_app]
    have hb := h.bnd y (by rw [hm]; simp)
    rw [List.concat_eq_append] at he hm
    rcases List.mem_append.1 he with h1 | h1
    · have hp := h.lt
      rw [hm, List.pairwise_append] at hp
      have := (List.pairwise_append.1 hp.1).2.2 e h1 y (by simp)
      omega
    · simp at h1; subst h1; omega
theorem Asc.gap {m a xs : List EvD} {x : EvD} (h : Asc m) (hm : m = a ++ (x :: xs)) {n : Nat} (h1 : topN a ≤ n) (h2 : (n : Int) < x.seq) : pR m n = true := by
  simp only [pR, List.all_eq_true, bne_iff_ne, ne_eq]
  intro e he
  rw [hm] at he
  have hp := h.lt
  rw [hm, List.pairwise_append, List.pairwise_cons] at hp
  rcases List.mem_append.1 he with h3 | h3
  · have := h.top hm e h3; omega
  · rcases List.mem_cons.1 h3 with rfl | h3
    · omega
    · have := hp.2.1.1 e h3; omega
theorem Asc.next {m a xs : List EvD} {x : EvD} (h : Asc m) (hm : m = a ++ (x :: xs)) : (topN a : Int) ≤ x.seq := by
  rcases List.eq_nil_or_concat a with rfl | ⟨a', y, rfl⟩
  · have := (h.bnd x (by rw [hm]; simp)).1
    simp [topN]; omega
  · have hp := h.lt
    have hb := h.bnd y (by rw [hm]; simp)
    rw [hm, List.concat_eq_append, List.pairwise_append] at hp
    have := hp.2.2 y (by simp) x (by simp)
    rw [List.concat_eq_append, topN_app]; omega
theorem pR_hit {m : List EvD} {x : EvD} (hx : x ∈ m) (h0 : 0 ≤ x.seq) : pR m x.seq.toNat = false := by
  simp only [pR, List.all_eq_false]
  exact ⟨x, hx, by simp; omega⟩
theorem nums_ext (p : Nat → Bool) {n m : Nat} (h : n ≤ m) : ∃ r, nums p m = nums p n ++ r := by
  obtain ⟨k, rfl⟩ : ∃ k, m = n + k := ⟨m - n, by omega⟩
  induction k with
  | zero => exact ⟨[], by simp⟩
  | succ k ih =>
    obtain ⟨r, hr⟩ := ih (by omega)
    exact ⟨_, by rw [← Nat.add_assoc, nums_succ, hr, List.append_assoc]⟩
def cutN (p : Nat → Bool) (n : Nat) : List Int := (nums p n).take 256
theorem cutN_full (p : Nat → Bool) {n m : Nat} (h : n ≤ m) (hl : 256 ≤ (cutN p n).length) : cutN p m = cutN p n := by
  obtain ⟨r, hr⟩ := nums_ext p h
  unfold cutN at *
  rw [hr, List.take_append_of_le_length]
  rw [List.length_take] at hl; omega
theorem cutN_hit (p : Nat → Bool) {n : Nat} (h : p n = false) : cutN p (n + 1) = cutN p n := by
  unfold cutN; rw [nums_succ, h]; simp
theorem cutN_miss (p : Nat → Bool) {n : Nat} (h : p n = true) (hl : (cutN p n).length < 256) : cutN p (n + 1) = cutN p n ++ [(n : Int)] := by
  unfold cutN at *
  rw [List.length_take] at hl
  rw [nums_succ, h, List.take_of_length_le (by simp; omega), List.take_of_length_le (by omega)]; rfl
theorem cutN_len (p : Nat → Bool) (n : Nat) : (cutN p n).length ≤ 256 := by unfold cutN; rw [List.length_take]; omega
theorem seg_asc {l : List EvD} (hC : Coll l) (x y : ByteArray) : Asc (l.filter (ofP x y)) := by
  refine ⟨?_, fun e he => ev_seq (hC.ok e (List.mem_filter.1 he).1)⟩
  refine List.Pairwise.imp_of_mem ?_ (hC.ord.sublist (List.filter_sublist (p := ofP x y)))
  intro a b ha hb hab
  have h1 := (List.mem_filter.1 ha).2
  have h2 := (List.mem_filter.1 hb).2
  simp only [ofP, Bool.and_eq_true, decide_eq_true_eq] at h1 h2
  have := (bef_iff a b).1 hab.1
  have e0 : cmpT (keyE a) (keyE b) = 0 := cmpT_eq.2 ⟨by simp [keyE, h1, h2], by simp [keyE, h1, h2]⟩
  omega
abbrev SMissR : List V → Option V := FT fun (t : List EvD × ByteArray × ByteArray × Unit) => if colS t.1 = 0 then some (cutN (pR (t.1.filter (ofP t.2.1 t.2.2.1))) (topN (t.1.filter (ofP t.2.1 t.2.2.1))), endE (t.1.filter (ofP t.2.1 t.2.2.1))) else none
theorem con17 {Φ : Specs} (hg : Idl.Good Try.prog Φ) (h19 : Φ 19 = some SOfR) : Contract Try.prog 17 SMissR := by
  refine conT hg k17 ic17 (by decide) fun C t r h => ?_
  obtain ⟨l, x, y, u⟩ := t
  dsimp only at h
  split at h
  · rename_i hl
    have hC := colS_ok.1 hl
    have hlen := hC.len
    cases h
    have hA := seg_asc hC x y
    have hml := List.length_filter_le (ofP x y) l
    have hl1 : l.length ≤ 100000 := by omega
    simp +contextual only [go_sem, ↓reduceIte, Nat.reduceEqDiff, Nat.reduceAdd, Nat.reduceLeDiff, Nat.reduceLT, reduceCtorEq, c17, k17, h19, hl1]
    generalize l.filter (ofP x y) = m at *
    refine TriI.loopL hg k17 m (fun i (a : List EvD) => ⟨slotsL [(8, Cod.enc m), (9, .own 0 0 (cutN (pR m) (topN a)).length), (10, .sc (.int .i64 (topN a : Nat))), (11, .sc (.bool (endE a))), (12, .sc (.int .i64 i))], objsL [.live 1 ((cutN (pR m) (topN a)).map Cod.enc) true], 1⟩)
      (fun xs a => m = a ++ xs) [] (.ren [none] rfl rfl 0 ?_) rfl ?_ ?_
    · have hz : cutN (pR m) (topN []) = [] := by simp [cutN, nums, topN]
      simp +contextual only [go_sem, ↓reduceIte, Nat.reduceEqDiff, Nat.reduceAdd, Nat.reduceLeDiff, Nat.reduceLT, reduceCtorEq, hz, List.length_nil, List.map_nil]
      exact ⟨rfl, rfl, rfl⟩
    · intro a hinv
      rw [List.append_nil] at hinv
      subst hinv
      have hz : (cutN (pR m) (topN m)).length ≤ (cutN (pR m) (topN m)).length ∧ ((cutN (pR m) (topN m)).map Cod.enc).all V.isF = true := ⟨by omega, isF_ints _⟩
      have htk : List.take (cutN (pR m) (topN m)).length ((cutN (pR m) (topN m)).map Cod.enc) = (cutN (pR m) (topN m)).map (Cod.enc : Int → V) := List.take_of_length_le (by simp)
      simp +contextual only [go_sem, ↓reduceIte, Nat.reduceEqDiff, Nat.reduceAdd, Nat.reduceLeDiff, Nat.reduceLT, reduceCtorEq, k17, Int.lt_irrefl, decide_false, List.length_map, Nat.zero_add, hz, htk, and_self]
    · intro i a e xs hd hlt hx hinv
      have hw := wrap_nat hlt (by omega)
      have hnx := hA.next hinv
      have hme : e ∈ m := List.mem_of_getElem? hx
      have heb := hA.bnd e hme
      simp +contextual only [go_sem, ↓reduceIte, Nat.reduceEqDiff, Nat.reduceAdd, Nat.reduceLeDiff, Nat.reduceLT, reduceCtorEq, k17, lt_dec hlt, hx, List.length_map, List.getElem?_map, Option.map_some, Int.natCast_nonneg, Int.toNat_natCast]
      refine TriI.loopA hg k17 (fun n : Nat => ⟨slotsL [(8, Cod.enc m), (9, .own 0 0 (cutN (pR m) n).length), (10, .sc (.int .i64 (n : Nat))), (11, .sc (.bool (endE a))), (12, .sc (.int .i64 i))], objsL [.live 1 ((cutN (pR m) n).map Cod.enc) true], 1⟩)
        (fun n => topN a ≤ n ∧ (n : Int) ≤ e.seq) (fun n => e.seq.toNat - n) (topN a) (.back rfl ?_) ⟨by omega, hnx⟩ ?_
      · simp +contextual only [go_sem, ↓reduceIte, Nat.reduceEqDiff, Nat.reduceAdd, Nat.reduceLeDiff, Nat.reduceLT, reduceCtorEq, low_ints]
      · rintro n ⟨n1, n2⟩
        by_cases hc : (n : Int) < e.seq ∧ (cutN (pR m) n).length < 256
        · have hd1 : decide ((n : Int) < e.seq) = true := by simp; omega
          have hd2 : decide (((cutN (pR m) n).length : Int) < 256) = true := by simp; omega
          have hw2 : IntKind.i64.wrap ((n : Int) + 1) = ((n + 1 : Nat) : Int) := by rw [IntKind.wrap_i64]; omega
          have b1 : ((cutN (pR m) n).length + 1) * 8 ≤ 68719476736 := by omega
          have b2 : (cutN (pR m) n).length + 1 ≤ 4294967296 := by omega
          have hns := cutN_miss (pR m) (hA.gap hinv n1 hc.1) hc.2
          simp +contextual only [go_sem, ↓reduceIte, Nat.reduceEqDiff, Nat.reduceAdd, Nat.reduceLeDiff, Nat.reduceLT, reduceCtorEq, k17, hx, hd1, hd2, hw2, b1, b2, List.length_map, List.getElem?_map, Option.map_some, Int.natCast_nonneg, Int.toNat_natCast, List.drop_zero, Nat.zero_add, true_and, and_true, okE]
          refine ⟨n + 1, by dsimp only; omega, ⟨by omega, by omega⟩, .ren [some 2] rfl rfl 0 ?_⟩
          simp +contextual only [go_sem, ↓reduceIte, Nat.reduceEqDiff, Nat.reduceAdd, Nat.reduceLeDiff, Nat.reduceLT, reduceCtorEq, hns, List.map_append, List.map_cons, List.map_nil, List.length_append, List.length_cons, List.length_nil, List.all_append, low_ints, Nat.zero_add]
        · have hw3 : IntKind.i64.wrap (e.seq + 1) = ((topN (a ++ [e]) : Nat) : Int) := by rw [topN_app, IntKind.wrap_i64]; omega
          have hcut : cutN (pR m) (topN (a ++ [e])) = cutN (pR m) n := by
            rw [topN_app, show (e.seq + 1).toNat = e.seq.toNat + 1 by omega, cutN_hit _ (pR_hit hme heb.1)]
            by_cases hn : (n : Int) < e.seq
            · exact cutN_full _ (by omega) (by omega)
            · rw [show e.seq.toNat = n by omega]
          have hcond : (decide ((n : Int) < e.seq) = true → decide (((cutN (pR m) n).length : Int) < 256) = false) := fun h => by simp at h ⊢; omega
          by_cases hn : (n : Int) < e.seq
          · have hd1 : decide ((n : Int) < e.seq) = true := by simp; omega
            have hd2 := hcond hd1
            simp +contextual only [go_sem, ↓reduceIte, Nat.reduceEqDiff, Nat.reduceAdd, Nat.reduceLeDiff, Nat.reduceLT, reduceCtorEq, k17, hx, hd1, hd2, hw, hw3, List.length_map, List.getElem?_map, Option.map_some, Int.natCast_nonneg, Int.toNat_natCast]
            refine ⟨a ++ [e], by rw [hinv]; simp, .back rfl ?_⟩
            simp +contextual only [go_sem, ↓reduceIte, Nat.reduceEqDiff, Nat.reduceAdd, Nat.reduceLeDiff, Nat.reduceLT, reduceCtorEq, endE_app, hcut, low_ints]
          · have hd1 : decide ((n : Int) < e.seq) = false := by simp; omega
            simp +contextual only [go_sem, ↓reduceIte, Nat.reduceEqDiff, Nat.reduceAdd, Nat.reduceLeDiff, Nat.reduceLT, reduceCtorEq, k17, hx, hd1, hw, hw3, List.length_map, List.getElem?_map, Option.map_some, Int.natCast_nonneg, Int.toNat_natCast]
            refine ⟨a ++ [e], by rw [hinv]; simp, .back rfl ?_⟩
            simp +contextual only [go_sem, ↓reduceIte, Nat.reduceEqDiff, Nat.reduceAdd, Nat.reduceLeDiff, Nat.reduceLT, reduceCtorEq, endE_app, hcut, low_ints]
  · cases h

/-! ### Both are the same -/
theorem sameK_of (x y : ByteArray) : sameK (kAt x y) = ofP x y := by
  funext e
  rw [Bool.eq_iff_iff]
  simp [sameK, ofP, cmpT_eq, keyE, kAt]
theorem seg_of {l : List EvD} (hC : Coll l) (x y : ByteArray) : segB l (kAt x y) = l.filter (ofP x y) := by rw [seg_filter hC, sameK_of]
theorem pI_eq {l : List EvD} (hC : Coll l) (x y : ByteArray) : pI (l.filter (ofP x y)) x y = pR (l.filter (ofP x y)) := by
  funext n
  rw [Bool.eq_iff_iff]
  have hk : ∀ e ∈ l.filter (ofP x y), keyE e = ⟨x, y, e.seq⟩ := fun e he => by
    have h1 := (List.mem_filter.1 he).2
    simp only [ofP, Bool.and_eq_true, decide_eq_true_eq] at h1
    simp [keyE, h1.1, h1.2]
  simp only [pI, pR, Option.isNone_iff_eq_none, List.all_eq_true, bne_iff_ne, ne_eq]
  constructor
  · intro h e he hs
    exact look_idx0 h e he (by rw [hk e he, hs])
  · intro h
    cases hl : lookM (idxE (l.filter (ofP x y))) (⟨x, y, (n : Int)⟩ : KeyD) with
    | none => rfl
    | some e =>
      obtain ⟨h1, h2⟩ := look_idx hl
      rw [hk e h1] at h2
      simp only [KeyD.mk.injEq] at h2
      exact absurd h2.2.2 (h e h1)
theorem grt_top {m : List EvD} (h : Asc m) : m ≠ [] → grt m + 1 = topN m ∧ ∃ e ∈ m, e.seq = grt m := by
  intro hne
  rcases List.eq_nil_or_concat m with rfl | ⟨a, y, rfl⟩
  · exact absurd rfl hne
  · have hb := h.bnd y (by simp)
    rw [List.concat_eq_append, topN_app, grt_app]
    have hp := h.lt
    rw [List.concat_eq_append, List.pairwise_append] at hp
    have hm : grt a < y.seq := by
      have : ∀ (a : List EvD) (g : Int), (∀ e ∈ a, e.seq < y.seq) → g < y.seq → a.foldl (fun g e => max g e.seq) g < y.seq := by
        intro a
        induction a with
        | nil => intro g _ h; exact h
        | cons e a ih =>
          intro g h hg
          have := h e (by simp)
          exact ih _ (fun x hx => h x (by simp [hx])) (by dsimp only; omega)
      exact this a (-1) (fun e he => hp.2.2 e he y (by simp)) (by omega)
    exact ⟨by omega, y, by simp, by omega⟩
theorem miss_eq {l : List EvD} (hC : Coll l) (x y : ByteArray) :
    ((nums (pI (segB l (kAt x y)) x y) (grt (segB l (kAt x y))).toNat).take 256, endE (segB l (kAt x y))) = (cutN (pR (l.filter (ofP x y))) (topN (l.filter (ofP x y))), endE (l.filter (ofP x y))) := by
  rw [seg_of hC, pI_eq hC]
  have hA := seg_asc hC x y
  generalize l.filter (ofP x y) = m at *
  congr 1
  by_cases hm : m = []
  · subst hm; rfl
  · obtain ⟨h1, e, he, h2⟩ := grt_top hA hm
    have hb := hA.bnd e he
    have : topN m = e.seq.toNat + 1 := by omega
    rw [this, cutN_hit _ (pR_hit he hb.1), ← h2]; rfl
end Go.Proofs.Ytnafhnnhhdmnfaa
