/- The events of a transaction, missing numbers, keys. -/
import Derived.Test.YtnafhnnhhdmnfaaPutLaw36
namespace Go.Proofs.Ytnafhnnhhdmnfaa
set_option linter.all false
open Go.Idl
set_option maxHeartbeats 4000000
set_option maxRecDepth 100000
attribute [local go_sem] Try.underlying3 Try.underlying75 Try.underlying9 Try.underlying4 agKey

def ofP (x y : ByteArray) (e : EvD) : Bool := decide (e.station = x) && decide (e.txn = y)
abbrev SOfR : List V → Option V := FT fun (t : List EvD × ByteArray × ByteArray × Unit) => if t.1.length ≤ 100000 then some (t.1.filter (ofP t.2.1 t.2.2.1)) else none
theorem con19 {Φ : Specs} (hg : Idl.Good Try.prog Φ) : Contract Try.prog 19 SOfR := by
  refine conT hg k19 ic19 (by decide) fun C t r h => ?_
  obtain ⟨l, x, y, u⟩ := t
  dsimp only at h
  split at h
  · rename_i hl
    cases h
    simp +contextual only [go_sem, ↓reduceIte, Nat.reduceEqDiff, Nat.reduceAdd, Nat.reduceLeDiff, Nat.reduceLT, reduceCtorEq, c19, k19, List.length_map]
    refine TriI.loopL hg k19 l (fun i (a : List EvD) => ⟨slotsL [(0, Cod.enc l), (1, .sc (.string x)), (2, .sc (.string y)), (7, .own 0 0 (a.filter (ofP x y)).length), (8, .sc (.int .i64 i))], objsL [.live 10 ((a.filter (ofP x y)).map Cod.enc) true], 1⟩)
      (fun xs a => l = a ++ xs) [] (.ren [none] rfl rfl 0 ?_) rfl ?_ ?_
    · simp +contextual only [go_sem, ↓reduceIte, Nat.reduceEqDiff, Nat.reduceAdd, Nat.reduceLeDiff, Nat.reduceLT, reduceCtorEq, List.filter_nil, List.length_nil, List.map_nil]
      rfl
    · intro a hinv
      rw [List.append_nil] at hinv
      subst hinv
      simp +contextual only [go_sem, ↓reduceIte, Nat.reduceEqDiff, Nat.reduceAdd, Nat.reduceLeDiff, Nat.reduceLT, reduceCtorEq, k19, Int.lt_irrefl, decide_false, List.length_map, isF_evs, Nat.zero_add, Nat.le_refl, List.drop_zero, true_and, and_true]
      rw [List.take_of_length_le (by simp)]
      exact decL_enc Cod.dec_enc _
    · intro i a e xs hd hlt hx hinv
      have hw := wrap_nat hlt (by omega)
      have hfl : (a.filter (ofP x y)).length ≤ a.length := List.length_filter_le _ _
      have hal : a.length ≤ l.length := by rw [hinv]; simp
      have b1 : ((a.filter (ofP x y)).length + 1) * 120 ≤ 68719476736 := by omega
      have b2 : (a.filter (ofP x y)).length + 1 ≤ 4294967296 := by omega
      simp +contextual only [go_sem, ↓reduceIte, Nat.reduceEqDiff, Nat.reduceAdd, Nat.reduceLeDiff, Nat.reduceLT, reduceCtorEq, k19, lt_dec hlt, hx, hw, b1, b2, List.length_map, List.getElem?_map, Option.map_some, Int.natCast_nonneg, Int.toNat_natCast, Nat.zero_add, List.drop_zero, true_and, and_true, okE]
      refine ⟨fun hp => ⟨a ++ [e], by rw [hinv]; simp, .ren [some 2] rfl rfl 0 ?_⟩, fun hp => ⟨a ++ [e], by rw [hinv]; simp, .back rfl ?_⟩⟩
      · have hf : (a ++ [e]).filter (ofP x y) = a.filter (ofP x y) ++ [e] := by rw [List.filter_append, List.filter_cons_of_pos (p := ofP x y) hp, List.filter_nil]
        simp +contextual only [go_sem, ↓reduceIte, Nat.reduceEqDiff, Nat.reduceAdd, Nat.reduceLeDiff, Nat.reduceLT, reduceCtorEq, hf, List.map_append, List.map_cons, List.map_nil, List.length_append, List.length_cons, List.length_nil, List.all_append, low_evs, Nat.zero_add]
      · have hf : (a ++ [e]).filter (ofP x y) = a.filter (ofP x y) := by rw [List.filter_append, List.filter_cons_of_neg (by simpa [ofP] using hp), List.filter_nil, List.append_nil]
        simp +contextual only [go_sem, ↓reduceIte, Nat.reduceEqDiff, Nat.reduceAdd, Nat.reduceLeDiff, Nat.reduceLT, reduceCtorEq, hf, low_evs]
  · cases h
def eqI (a b : Int) : Bool := a == b
abbrev SSameI : List V → Option V := FT fun (t : List Int × List Int × Unit) => if t.1.length ≤ 1000000 then some (eqZ eqI t.1 t.2.1) else none
theorem con20 {Φ : Specs} (hg : Idl.Good Try.prog Φ) : Contract Try.prog 20 SSameI := by
  refine conT hg k20 ic20 (by decide) fun C t r h => ?_
  obtain ⟨a, b, u⟩ := t
  dsimp only at h
  split at h
  · rename_i hln
    cases h
    simp +contextual only [go_sem, ↓reduceIte, Nat.reduceEqDiff, Nat.reduceAdd, Nat.reduceLeDiff, Nat.reduceLT, reduceCtorEq, c20, k20, List.length_map]
    refine ⟨fun h => ?_, fun h => ?_⟩
    · have : decide (a.length = b.length) = false := by simp at h ⊢; omega
      simp only [eqZ, this, Bool.false_and]
    · have h1 : a.length = b.length := by simp at h; omega
      have hz : (a.zip b).length = a.length := by rw [List.length_zip]; omega
      refine TriI.loopL hg k20 (a.zip b) (fun i (_ : Unit) => ⟨slotsL [(0, Cod.enc a), (1, Cod.enc b), (5, .sc (.int .i64 i))], objsL [], 0⟩)
        (fun xs _ => (xs.all fun p => eqI p.1 p.2) = (a.zip b).all fun p => eqI p.1 p.2) () (.back rfl ?_) rfl ?_ ?_
      · simp +contextual only [go_sem, ↓reduceIte, Nat.reduceEqDiff, Nat.reduceAdd, Nat.reduceLeDiff, Nat.reduceLT, reduceCtorEq, List.length_map]
        rfl
      · intro _ hinv
        rw [hz]
        simp +contextual only [go_sem, ↓reduceIte, Nat.reduceEqDiff, Nat.reduceAdd, Nat.reduceLeDiff, Nat.reduceLT, reduceCtorEq, k20, Int.lt_irrefl, decide_false, List.length_map]
        simp only [eqZ, ← hinv, List.all_nil, h1, decide_true, Bool.and_true]
      · rintro i _ ⟨x, y⟩ xs hd hlt hx hinv
        rw [hz] at hlt
        obtain ⟨hx1, hx2⟩ := zip_get hx
        have hw := wrap_nat hlt (by omega)
        simp +contextual only [go_sem, ↓reduceIte, Nat.reduceEqDiff, Nat.reduceAdd, Nat.reduceLeDiff, Nat.reduceLT, reduceCtorEq, k20, lt_dec hlt, hx1, hx2, List.length_map, List.getElem?_map, Option.map_some, Int.natCast_nonneg, Int.toNat_natCast]
        refine ⟨rfl, fun hc => ?_, fun hc => ⟨(), ?_, .back rfl ?_⟩⟩
        · simp only [eqZ, ← hinv, List.all_cons]
          have : eqI x y = false := by simpa [eqI] using hc
          simp [this]
        · rw [← hinv, List.all_cons]
          have : eqI x y = true := by simpa [eqI] using hc
          simp [this]
        · simp +contextual only [go_sem, ↓reduceIte, Nat.reduceEqDiff, Nat.reduceAdd, Nat.reduceLeDiff, Nat.reduceLT, reduceCtorEq, hw]
  · cases h
def eqP (a b : List ByteArray) : Bool := match a, b with
  | [a1, a2], [b1, b2] => decide (a1 = b1) && decide (a2 = b2)
  | _, _ => false
def twos (l : List (List ByteArray)) : Bool := l.all fun x => x.length == 2
theorem twos_at {l : List (List ByteArray)} (h : twos l = true) {i : Nat} {x : List ByteArray} (hx : l[i]? = some x) : ∃ a b, x = [a, b] := by
  have := List.all_eq_true.1 h x (List.mem_of_getElem? hx)
  match x, this with
  | [a, b], _ => exact ⟨a, b, rfl⟩
  | [], h => simp at h
  | [_], h => simp at h
  | _ :: _ :: _ :: _, h => simp at h
abbrev SSameK : List V → Option V := FT fun (t : List (List ByteArray) × List (List ByteArray) × Unit) => if t.1.length ≤ 1000000 ∧ twos t.1 = true ∧ twos t.2.1 = true then some (eqZ eqP t.1 t.2.1) else none
theorem con21 {Φ : Specs} (hg : Idl.Good Try.prog Φ) : Contract Try.prog 21 SSameK := by
  refine conT hg k21 ic21 (by decide) fun C t r h => ?_
  obtain ⟨a, b, u⟩ := t
  dsimp only at h
  split at h
  · rename_i hln
    cases h
    simp +contextual only [go_sem, ↓reduceIte, Nat.reduceEqDiff, Nat.reduceAdd, Nat.reduceLeDiff, Nat.reduceLT, reduceCtorEq, c21, k21, List.length_map]
    refine ⟨fun h => ?_, fun h => ?_⟩
    · have : decide (a.length = b.length) = false := by simp at h ⊢; omega
      simp only [eqZ, this, Bool.false_and]
    · have h1 : a.length = b.length := by simp at h; omega
      have hz : (a.zip b).length = a.length := by rw [List.length_zip]; omega
      refine TriI.loopL hg k21 (a.zip b) (fun i (_ : Unit) => ⟨slotsL [(0, Cod.enc a), (1, Cod.enc b), (5, .sc (.int .i64 i))], objsL [], 0⟩)
        (fun xs _ => (xs.all fun p => eqP p.1 p.2) = (a.zip b).all fun p => eqP p.1 p.2) () (.back rfl ?_) rfl ?_ ?_
      · simp +contextual only [go_sem, ↓reduceIte, Nat.reduceEqDiff, Nat.reduceAdd, Nat.reduceLeDiff, Nat.reduceLT, reduceCtorEq, List.length_map]
        rfl
      · intro _ hinv
        rw [hz]
        simp +contextual only [go_sem, ↓reduceIte, Nat.reduceEqDiff, Nat.reduceAdd, Nat.reduceLeDiff, Nat.reduceLT, reduceCtorEq, k21, Int.lt_irrefl, decide_false, List.length_map]
        simp only [eqZ, ← hinv, List.all_nil, h1, decide_true, Bool.and_true]
      · rintro i _ ⟨x, y⟩ xs hd hlt hx hinv
        rw [hz] at hlt
        obtain ⟨hx1, hx2⟩ := zip_get hx
        have hw := wrap_nat hlt (by omega)
        obtain ⟨x1, x2, rfl⟩ := twos_at hln.2.1 hx1
        obtain ⟨y1, y2, rfl⟩ := twos_at hln.2.2 hx2
        have h22 : (((2 : Nat) : Int) != 2) = false := rfl
        simp +contextual only [go_sem, ↓reduceIte, Nat.reduceEqDiff, Nat.reduceAdd, Nat.reduceLeDiff, Nat.reduceLT, reduceCtorEq, h22, List.getElem?_cons_zero, List.getElem?_cons_succ, Int.le_refl, Int.toNat_zero, if_true, show Int.toNat 1 = 1 from rfl, show (0 : Int) ≤ 1 by decide, k21, lt_dec hlt, hx1, hx2, List.length_map, List.getElem?_map, Option.map_some, Int.natCast_nonneg, Int.toNat_natCast, List.map_cons, List.map_nil, List.length_cons, List.length_nil]
        refine ⟨rfl, fun hc => ?_, fun hc => ⟨(), ?_, .back rfl ?_⟩⟩
        · simp only [eqZ, ← hinv, List.all_cons]
          have : eqP [x1, x2] [y1, y2] = false := by
            simp only [eqP]
            simp only [Bool.or_eq_true, Bool.not_eq_true'] at hc
            rcases hc with h | h <;> simp [h]
          simp [this]
        · rw [← hinv, List.all_cons]
          have : eqP [x1, x2] [y1, y2] = true := by
            simp only [Bool.or_eq_false_iff, Bool.not_eq_false'] at hc
            simp only [eqP, hc.1, hc.2, Bool.and_true]
          simp [this]
        · simp +contextual only [go_sem, ↓reduceIte, Nat.reduceEqDiff, Nat.reduceAdd, Nat.reduceLeDiff, Nat.reduceLT, reduceCtorEq, hw]
  · cases h
def newK (p : Option EvD) (e : EvD) : Bool := match p with
  | some q => !one q e
  | none => true
def keysF : Option EvD → List EvD → List (List ByteArray)
  | _, [] => []
  | p, e :: l => (bif newK p e then [[e.station, e.txn]] else []) ++ keysF (some e) l
theorem keysF_app (x : EvD) : ∀ (a : List EvD) (p : Option EvD), keysF p (a ++ [x]) = keysF p a ++ (bif newK (a.getLast?.or p) x then [[x.station, x.txn]] else [])
  | [], p => by simp [keysF]
  | y :: a, p => by
    simp only [List.cons_append, keysF, keysF_app x a (some y), List.append_assoc]
    congr 3
    cases a with
    | nil => rfl
    | cons z a => simp [List.getLast?_cons_cons, List.getLast?_eq_some_getLast]
theorem keysF_len : ∀ (l : List EvD) (p : Option EvD), (keysF p l).length ≤ l.length
  | [], _ => by simp [keysF]
  | e :: l, p => by
    have := keysF_len l (some e)
    simp only [keysF, List.length_append, List.length_cons]
    cases newK p e <;> simp <;> omega
abbrev SKeys : List V → Option V := FT fun (t : List EvD × Unit) => if t.1.length ≤ 100000 then some (keysF none t.1) else none
theorem low_keys (n : Nat) (l : List (List ByteArray)) : (l.map Cod.enc).all (V.low n) = true := by
  simp only [List.all_map, List.all_eq_true]
  intro x _
  rfl
theorem isF_keys (l : List (List ByteArray)) : (l.map Cod.enc).all V.isF = true := by
  simp only [List.all_map, List.all_eq_true]
  intro x _
  rfl
theorem con22 {Φ : Specs} (hg : Idl.Good Try.prog Φ) (h28 : Φ 28 = some SKey) (h29 : Φ 29 = some SCmpT) : Contract Try.prog 22 SKeys := by
  refine conT hg k22 ic22 (by decide) fun C t r h => ?_
  obtain ⟨l, u⟩ := t
  dsimp only at h
  split at h
  · rename_i hl
    cases h
    simp +contextual only [go_sem, ↓reduceIte, Nat.reduceEqDiff, Nat.reduceAdd, Nat.reduceLeDiff, Nat.reduceLT, reduceCtorEq, c22, k22, List.length_map]
    refine TriI.loopL hg k22 l (fun i (a : List EvD) => ⟨slotsL [(0, Cod.enc l), (3, .own 0 0 (keysF none a).length), (6, Cod.enc l), (7, .sc (.int .i64 l.length)), (8, .sc (.int .i64 i))], objsL [.live 1 ((keysF none a).map Cod.enc) true], 1⟩)
      (fun xs a => l = a ++ xs) [] (.ren [none] rfl rfl 0 ?_) rfl ?_ ?_
    · simp +contextual only [go_sem, ↓reduceIte, Nat.reduceEqDiff, Nat.reduceAdd, Nat.reduceLeDiff, Nat.reduceLT, reduceCtorEq, keysF, List.length_nil, List.map_nil, List.length_map]
      rfl
    · intro a hinv
      rw [List.append_nil] at hinv
      subst hinv
      simp +contextual only [go_sem, ↓reduceIte, Nat.reduceEqDiff, Nat.reduceAdd, Nat.reduceLeDiff, Nat.reduceLT, reduceCtorEq, k22, Int.lt_irrefl, decide_false, List.length_map, isF_keys, Nat.zero_add, Nat.le_refl, List.drop_zero, true_and, and_true]
      rw [List.take_of_length_le (by simp)]
      exact decL_enc Cod.dec_enc _
    · intro i a e xs hd hlt hx hinv
      have hw := wrap_nat hlt (by omega)
      have hi := drop_pre hd hinv
      have hfl := keysF_len a none
      have hal : a.length ≤ l.length := by rw [hinv]; simp
      have b1 : ((keysF none a).length + 1) * 24 ≤ 68719476736 := by omega
      have b2 : (keysF none a).length + 1 ≤ 4294967296 := by omega
      have hap := keysF_app e a none
      have hn : (a ++ [e]) ++ xs = l := by rw [hinv]; simp
      rcases List.eq_nil_or_concat a with rfl | ⟨a', y, rfl⟩
      · have hg0 : ((i : Int) == 0) = true := by simp at hi; simp [hi]
        have hp2 : keysF none [e] = keysF none [] ++ [[e.station, e.txn]] := rfl
        simp +contextual only [go_sem, ↓reduceIte, Nat.reduceEqDiff, Nat.reduceAdd, Nat.reduceLeDiff, Nat.reduceLT, reduceCtorEq, k22, lt_dec hlt, hx, hw, hg0, b1, b2, List.length_map, List.getElem?_map, Option.map_some, Int.natCast_nonneg, Int.toNat_natCast, Nat.zero_add, List.drop_zero, true_and, and_true, okE]
        refine ⟨rfl, [] ++ [e], hn.symm, .ren [some 19] rfl rfl 0 ?_⟩
        simp +contextual only [go_sem, ↓reduceIte, Nat.reduceEqDiff, Nat.reduceAdd, Nat.reduceLeDiff, Nat.reduceLT, reduceCtorEq, hp2, List.map_append, List.map_cons, List.map_nil, List.length_append, List.length_cons, List.length_nil, List.all_append, low_keys, Nat.zero_add]
      · have hg1 : ((i : Int) == 0) = false := by simp at hi ⊢; omega
        have hw1 : IntKind.i64.wrap ((i : Int) - 1) = ((i - 1 : Nat) : Int) := by
          have : 0 < i := by simp at hi; omega
          rw [IntKind.wrap_i64]; omega
        have hy : l[i - 1]? = some y := by
          rw [hinv, hi]; simp
        simp +contextual only [go_sem, ↓reduceIte, Nat.reduceEqDiff, Nat.reduceAdd, Nat.reduceLeDiff, Nat.reduceLT, reduceCtorEq, k22, lt_dec hlt, hx, hw, hg1, hw1, hy, b1, b2, h28, h29, List.length_map, List.getElem?_map, Option.map_some, Int.natCast_nonneg, Int.toNat_natCast, Nat.zero_add, List.drop_zero, true_and, and_true, okE]
        have hnk : newK ((a'.concat y).getLast?.or none) e = (cmpT (keyE y) (keyE e) != 0) := by
          simp only [List.concat_eq_append, List.getLast?_append, List.getLast?_singleton, Option.some_or, newK]
          rw [one_cmp]; rfl
        rw [hnk] at hap
        refine ⟨rfl, fun hc => ⟨a'.concat y ++ [e], hn.symm, .ren [some 19] rfl rfl 0 ?_⟩, fun hc => ⟨a'.concat y ++ [e], hn.symm, .back rfl ?_⟩⟩
        · rw [hc] at hap
          simp +contextual only [go_sem, ↓reduceIte, Nat.reduceEqDiff, Nat.reduceAdd, Nat.reduceLeDiff, Nat.reduceLT, reduceCtorEq, hap, cond_true, List.map_append, List.map_cons, List.map_nil, List.length_append, List.length_cons, List.length_nil, List.all_append, low_keys, Nat.zero_add]
        · rw [hc] at hap
          simp +contextual only [go_sem, ↓reduceIte, Nat.reduceEqDiff, Nat.reduceAdd, Nat.reduceLeDiff, Nat.reduceLT, reduceCtorEq, hap, cond_false, List.append_nil, low_keys]
  · cases h
theorem con23 {Φ : Specs} (hg : Idl.Good Try.prog Φ) (h38 : Φ 38 = some SOne) : Contract Try.prog 23 SKeys := by
  refine conT hg k23 ic23 (by decide) fun C t r h => ?_
  obtain ⟨l, u⟩ := t
  dsimp only at h
  split at h
  · rename_i hl
    cases h
    simp +contextual only [go_sem, ↓reduceIte, Nat.reduceEqDiff, Nat.reduceAdd, Nat.reduceLeDiff, Nat.reduceLT, reduceCtorEq, c23, k23, List.length_map]
    refine TriI.loopL hg k23 l (fun i (a : List EvD) => ⟨slotsL [(0, Cod.enc l), (3, .own 0 0 (keysF none a).length), (4, .sc (.int .i64 i))], objsL [.live 1 ((keysF none a).map Cod.enc) true], 1⟩)
      (fun xs a => l = a ++ xs) [] (.ren [none] rfl rfl 0 ?_) rfl ?_ ?_
    · simp +contextual only [go_sem, ↓reduceIte, Nat.reduceEqDiff, Nat.reduceAdd, Nat.reduceLeDiff, Nat.reduceLT, reduceCtorEq, keysF, List.length_nil, List.map_nil, List.length_map]
      rfl
    · intro a hinv
      rw [List.append_nil] at hinv
      subst hinv
      simp +contextual only [go_sem, ↓reduceIte, Nat.reduceEqDiff, Nat.reduceAdd, Nat.reduceLeDiff, Nat.reduceLT, reduceCtorEq, k23, Int.lt_irrefl, decide_false, List.length_map, isF_keys, Nat.zero_add, Nat.le_refl, List.drop_zero, true_and, and_true]
      rw [List.take_of_length_le (by simp)]
      exact decL_enc Cod.dec_enc _
    · intro i a e xs hd hlt hx hinv
      have hw := wrap_nat hlt (by omega)
      have hi := drop_pre hd hinv
      have hfl := keysF_len a none
      have hal : a.length ≤ l.length := by rw [hinv]; simp
      have b1 : ((keysF none a).length + 1) * 24 ≤ 68719476736 := by omega
      have b2 : (keysF none a).length + 1 ≤ 4294967296 := by omega
      have hap := keysF_app e a none
      have hn : (a ++ [e]) ++ xs = l := by rw [hinv]; simp
      rcases List.eq_nil_or_concat a with rfl | ⟨a', y, rfl⟩
      · have hg0 : ((i : Int) == 0) = true := by simp at hi; simp [hi]
        have hp2 : keysF none [e] = keysF none [] ++ [[e.station, e.txn]] := rfl
        simp +contextual only [go_sem, ↓reduceIte, Nat.reduceEqDiff, Nat.reduceAdd, Nat.reduceLeDiff, Nat.reduceLT, reduceCtorEq, k23, lt_dec hlt, hx, hw, hg0, b1, b2, List.length_map, List.getElem?_map, Option.map_some, Int.natCast_nonneg, Int.toNat_natCast, Nat.zero_add, List.drop_zero, true_and, and_true, okE]
        refine ⟨rfl, rfl, [] ++ [e], hn.symm, .ren [some 29] rfl rfl 0 ?_⟩
        simp +contextual only [go_sem, ↓reduceIte, Nat.reduceEqDiff, Nat.reduceAdd, Nat.reduceLeDiff, Nat.reduceLT, reduceCtorEq, hp2, List.map_append, List.map_cons, List.map_nil, List.length_append, List.length_cons, List.length_nil, List.all_append, low_keys, Nat.zero_add]
      · have hg1 : ((i : Int) == 0) = false := by simp at hi ⊢; omega
        have hw1 : IntKind.i64.wrap ((i : Int) - 1) = ((i - 1 : Nat) : Int) := by
          have : 0 < i := by simp at hi; omega
          rw [IntKind.wrap_i64]; omega
        have hy : l[i - 1]? = some y := by
          rw [hinv, hi]; simp
        simp +contextual only [go_sem, ↓reduceIte, Nat.reduceEqDiff, Nat.reduceAdd, Nat.reduceLeDiff, Nat.reduceLT, reduceCtorEq, k23, lt_dec hlt, hx, hw, hg1, hw1, hy, b1, b2, h38, List.length_map, List.getElem?_map, Option.map_some, Int.natCast_nonneg, Int.toNat_natCast, Nat.zero_add, List.drop_zero, true_and, and_true, okE]
        have hnk : newK ((a'.concat y).getLast?.or none) e = !one y e := by
          simp only [List.concat_eq_append, List.getLast?_append, List.getLast?_singleton, Option.some_or, newK]
        rw [hnk] at hap
        refine ⟨rfl, fun hc => ⟨rfl, a'.concat y ++ [e], hn.symm, .ren [some 29] rfl rfl 0 ?_⟩, fun hc => ⟨a'.concat y ++ [e], hn.symm, .back rfl ?_⟩⟩
        · rw [hc] at hap
          simp +contextual only [go_sem, ↓reduceIte, Nat.reduceEqDiff, Nat.reduceAdd, Nat.reduceLeDiff, Nat.reduceLT, reduceCtorEq, hap, cond_true, List.map_append, List.map_cons, List.map_nil, List.length_append, List.length_cons, List.length_nil, List.all_append, low_keys, Nat.zero_add]
        · rw [hc] at hap
          simp +contextual only [go_sem, ↓reduceIte, Nat.reduceEqDiff, Nat.reduceAdd, Nat.reduceLeDiff, Nat.reduceLT, reduceCtorEq, hap, cond_false, List.append_nil, low_keys]
  · cases h

def grt (a : List EvD) : Int := a.foldl (fun g e => max g e.seq) (-1)
def endE (a : List EvD) : Bool := a.any fun e => e.kind == 3
def nums (p : Nat → Bool) (n : Nat) : List Int := ((List.range n).filter p).map Int.ofNat
def pI (seg : List EvD) (x y : ByteArray) (n : Nat) : Bool := (lookM (idxE seg) (⟨x, y, (n : Int)⟩ : KeyD)).isNone
theorem nums_succ (p : Nat → Bool) (n : Nat) : nums p (n + 1) = nums p n ++ (bif p n then [(n : Int)] else []) := by
  simp only [nums, List.range_succ, List.filter_append, List.map_append]
  cases h : p n <;> simp [h]
theorem nums_len (p : Nat → Bool) (n : Nat) : (nums p n).length ≤ n := by
  have := List.length_filter_le p (List.range n)
  simp [nums] at this ⊢; exact this
theorem nums_take (p : Nat → Bool) {n m : Nat} (h : n ≤ m) : (nums p m).take (nums p n).length = nums p n := by
  obtain ⟨k, rfl⟩ : ∃ k, m = n + k := ⟨m - n, by omega⟩
  induction k with
  | zero => simp
  | succ k ih =>
    rw [← Nat.add_assoc, nums_succ, List.take_append_of_le_length, ih (by omega)]
    have : ∀ k, (nums p n).length ≤ (nums p (n + k)).length := fun k => by
      induction k with
      | zero => simp
      | succ k ih => rw [← Nat.add_assoc, nums_succ]; simp; omega
    exact this k
abbrev SMissI : List V → Option V := FT fun (t : List EvD × ByteArray × ByteArray × Unit) => if colS t.1 = 0 then some ((nums (pI (segB t.1 (kAt t.2.1 t.2.2.1)) t.2.1 t.2.2.1) (grt (segB t.1 (kAt t.2.1 t.2.2.1))).toNat).take 256, endE (segB t.1 (kAt t.2.1 t.2.2.1))) else none
theorem low_ints (n : Nat) (l : List Int) : (l.map Cod.enc).all (V.low n) = true := by
  simp only [List.all_map, List.all_eq_true]
  intro x _
  rfl
theorem isF_ints (l : List Int) : (l.map Cod.enc).all V.isF = true := by
  simp only [List.all_map, List.all_eq_true]
  intro x _
  rfl
theorem okE_ints (l : List Int) : (l.map Cod.enc).all (okE 1) = true := by
  simp only [List.all_map, List.all_eq_true]
  intro x _
  rfl
theorem ev_seq {e : EvD} (h : evS e = 0) : 0 ≤ e.seq ∧ e.seq ≤ 2147483647 := by
  unfold evS at h
  cases h1 : (!okName e.station || !okName e.txn)
  · cases h2 : (!numsS e)
    · simp [numsS, inR] at h2; omega
    · simp [h1, h2] at h
  · simp [h1] at h
theorem grt_app (a : List EvD) (e : EvD) : grt (a ++ [e]) = max (grt a) e.seq := by simp [grt]
theorem endE_app (a : List EvD) (e : EvD) : endE (a ++ [e]) = (endE a || e.kind == 3) := by simp [endE]
theorem grt_bnd {a : List EvD} (h : ∀ e ∈ a, 0 ≤ e.seq ∧ e.seq ≤ 2147483647) : -1 ≤ grt a ∧ grt a ≤ 2147483647 := by
  have : ∀ (a : List EvD) (g : Int), (∀ e ∈ a, 0 ≤ e.seq ∧ e.seq ≤ 2147483647) → -1 ≤ g ∧ g ≤ 2147483647 → -1 ≤ a.foldl (fun g e => max g e.seq) g ∧ a.foldl (fun g e => max g e.seq) g ≤ 2147483647 := by
    intro a
    induction a with
    | nil => intro g _ h; exact h
    | cons e a ih =>
      intro g h hg
      have := h e (by simp)
      exact ih _ (fun x hx => h x (by simp [hx])) (by dsimp only; omega)
  exact this a (-1) h (by omega)
theorem con16 {Φ : Specs} (hg : Idl.Good Try.prog Φ) (h34 : Φ 34 = some SBounds) (h35 : Φ 35 = some SIndex) : Contract Try.prog 16 SMissI := by
  refine conT hg k16 ic16 (by decide) fun C t r h => ?_
  obtain ⟨l, x, y, u⟩ := t
  dsimp only at h
  split at h
  · rename_i hl
    have hC := colS_ok.1 hl
    have hlen := hC.len
    cases h
    obtain ⟨t1, t2⟩ := toB_le l (kAt x y)
    have hsl : List.drop (fromB l (kAt x y)) (List.take (toB l (kAt x y)) (List.map Cod.enc l)) = (segB l (kAt x y)).map Cod.enc := by rw [segB, List.map_drop, List.map_take]
    have hsg : (segB l (kAt x y)).length ≤ 1000000 := by simp [segB]; omega
    have hseq : ∀ e ∈ segB l (kAt x y), 0 ≤ e.seq ∧ e.seq ≤ 2147483647 := fun e he => ev_seq (hC.ok e (segB_mem he))
    simp +contextual only [go_sem, ↓reduceIte, Nat.reduceEqDiff, Nat.reduceAdd, Nat.reduceLeDiff, Nat.reduceLT, reduceCtorEq, c16, k16, List.length_map, h34, hl, Int.natCast_nonneg, Int.toNat_natCast, t1, t2, hsl, true_and, and_true, Option.map_none, Option.map_some]
    refine TriI.loopL hg k16 (segB l (kAt x y)) (fun i (a : List EvD) => ⟨slotsL [(0, Cod.enc l), (1, .sc (.string x)), (2, .sc (.string y)), (8, .sc (.int .i64 (fromB l (kAt x y) : Nat))), (9, .sc (.int .i64 (toB l (kAt x y) : Nat))), (10, .sc (.int .i64 (grt a))), (11, .sc (.bool (endE a))), (29, Cod.enc (segB l (kAt x y))), (30, .sc (.int .i64 (segB l (kAt x y)).length)), (31, .sc (.int .i64 i))], objsL [], 0⟩)
      (fun xs a => segB l (kAt x y) = a ++ xs) [] (.back rfl ?_) rfl ?_ ?_
    · simp +contextual only [go_sem, ↓reduceIte, Nat.reduceEqDiff, Nat.reduceAdd, Nat.reduceLeDiff, Nat.reduceLT, reduceCtorEq, List.length_map]
      exact ⟨rfl, rfl, rfl⟩
    · intro a hinv
      rw [List.append_nil] at hinv
      subst hinv
      simp +contextual only [go_sem, ↓reduceIte, Nat.reduceEqDiff, Nat.reduceAdd, Nat.reduceLeDiff, Nat.reduceLT, reduceCtorEq, k16, Int.lt_irrefl, decide_false, List.length_map, h35, hsl, hsg, Int.natCast_nonneg, Int.toNat_natCast, t1, t2, true_and, and_true, Option.map_none, Option.map_some]
      generalize hseg : segB l (kAt x y) = seg at *
      have hgb := grt_bnd hseq
      refine TriI.loopA hg k16 (fun n : Nat => ⟨slotsL [(1, .sc (.string x)), (2, .sc (.string y)), (10, .sc (.int .i64 (grt seg))), (11, .sc (.bool (endE seg))), (14, Cod.enc (⟨some (idxE seg)⟩ : KM KeyD EvD)), (15, .own 0 0 (nums (pI seg x y) n).length), (16, .sc (.int .i64 (n : Nat)))], objsL [.live 1 ((nums (pI seg x y) n).map Cod.enc) true], 1⟩)
        (fun n => n ≤ (grt seg).toNat ∧ (nums (pI seg x y) n).length ≤ 256) (fun n => (grt seg).toNat - n) 0 (.ren [none] rfl rfl 0 ?_) ⟨by omega, by simp [nums]⟩ ?_
      · simp +contextual only [go_sem, ↓reduceIte, Nat.reduceEqDiff, Nat.reduceAdd, Nat.reduceLeDiff, Nat.reduceLT, reduceCtorEq, nums, List.range_zero, List.filter_nil, List.map_nil, List.length_nil]
        rfl
      · rintro n ⟨n1, n2⟩
        by_cases hc : n < (grt seg).toNat ∧ (nums (pI seg x y) n).length < 256
        · have hd1 : decide ((n : Int) < grt seg) = true := by simp; omega
          have hd2 : decide (((nums (pI seg x y) n).length : Int) < 256) = true := by simp; omega
          have hw : IntKind.i64.wrap ((n : Int) + 1) = ((n + 1 : Nat) : Int) := by rw [IntKind.wrap_i64]; omega
          have b1 : ((nums (pI seg x y) n).length + 1) * 8 ≤ 68719476736 := by omega
          have b2 : (nums (pI seg x y) n).length + 1 ≤ 4294967296 := by omega
          have hns := nums_succ (pI seg x y) n
          cases hlk : lookM (idxE seg) (⟨x, y, (n : Int)⟩ : KeyD) with
          | none =>
            have hp : pI seg x y n = true := by simp [pI, hlk]
            rw [hp] at hns
            simp +contextual only [go_sem, ↓reduceIte, Nat.reduceEqDiff, Nat.reduceAdd, Nat.reduceLeDiff, Nat.reduceLT, reduceCtorEq, k16, hd1, hd2, hw, hlk, b1, b2, List.length_map, List.drop_zero, Nat.zero_add, true_and, and_true, okE]
            simp only [cond_true] at hns
            refine ⟨n + 1, by dsimp only; omega, ⟨by omega, by rw [hns]; simp; omega⟩, .ren [some 4] rfl rfl 0 ?_⟩
            simp +contextual only [go_sem, ↓reduceIte, Nat.reduceEqDiff, Nat.reduceAdd, Nat.reduceLeDiff, Nat.reduceLT, reduceCtorEq, hns, List.map_append, List.map_cons, List.map_nil, List.length_append, List.length_cons, List.length_nil, List.all_append, low_ints, low_vals, Nat.zero_add]
          | some e =>
            have hp : pI seg x y n = false := by simp [pI, hlk]
            rw [hp] at hns
            simp +contextual only [go_sem, ↓reduceIte, Nat.reduceEqDiff, Nat.reduceAdd, Nat.reduceLeDiff, Nat.reduceLT, reduceCtorEq, k16, hd1, hd2, hw, hlk]
            simp only [cond_false, List.append_nil] at hns
            refine ⟨n + 1, by dsimp only; omega, ⟨by omega, by rw [hns]; omega⟩, .back rfl ?_⟩
            simp +contextual only [go_sem, ↓reduceIte, Nat.reduceEqDiff, Nat.reduceAdd, Nat.reduceLeDiff, Nat.reduceLT, reduceCtorEq, hns, low_ints, low_vals]
        · by_cases hn : n < (grt seg).toNat
          · have hd1 : decide ((n : Int) < grt seg) = true := by simp; omega
            have hd2 : decide (((nums (pI seg x y) n).length : Int) < 256) = false := by simp; omega
            have hr : nums (pI seg x y) n = List.take 256 (nums (pI seg x y) (grt seg).toNat) := by
              have h1 := nums_take (pI seg x y) n1
              rw [show (nums (pI seg x y) n).length = 256 by omega] at h1
              exact h1.symm
            have hz : (nums (pI seg x y) n).length ≤ (nums (pI seg x y) n).length ∧ ((nums (pI seg x y) n).map Cod.enc).all V.isF = true := ⟨by omega, isF_ints _⟩
            have htk : List.take (nums (pI seg x y) n).length ((nums (pI seg x y) n).map Cod.enc) = (nums (pI seg x y) n).map (Cod.enc : Int → V) := List.take_of_length_le (by simp)
            simp +contextual only [go_sem, ↓reduceIte, Nat.reduceEqDiff, Nat.reduceAdd, Nat.reduceLeDiff, Nat.reduceLT, reduceCtorEq, k16, hd1, hd2, List.length_map, Nat.zero_add, hz, htk, and_self]
            rw [← hr]
          · have hd1 : decide ((n : Int) < grt seg) = false := by simp; omega
            have e : n = (grt seg).toNat := by omega
            have hr : nums (pI seg x y) n = List.take 256 (nums (pI seg x y) (grt seg).toNat) := by
              rw [← e, List.take_of_length_le n2]
            have hz : (nums (pI seg x y) n).length ≤ (nums (pI seg x y) n).length ∧ ((nums (pI seg x y) n).map Cod.enc).all V.isF = true := ⟨by omega, isF_ints _⟩
            have htk : List.take (nums (pI seg x y) n).length ((nums (pI seg x y) n).map Cod.enc) = (nums (pI seg x y) n).map (Cod.enc : Int → V) := List.take_of_length_le (by simp)
            simp +contextual only [go_sem, ↓reduceIte, Nat.reduceEqDiff, Nat.reduceAdd, Nat.reduceLeDiff, Nat.reduceLT, reduceCtorEq, k16, hd1, List.length_map, Nat.zero_add, hz, htk, and_self]
            rw [← hr]
    · intro i a e xs hd hlt hx hinv
      have hw := wrap_nat hlt (by omega)
      simp +contextual only [go_sem, ↓reduceIte, Nat.reduceEqDiff, Nat.reduceAdd, Nat.reduceLeDiff, Nat.reduceLT, reduceCtorEq, k16, lt_dec hlt, hx, hw, List.length_map, List.getElem?_map, Option.map_some, Int.natCast_nonneg, Int.toNat_natCast]
      refine ⟨a ++ [e], by rw [hinv]; simp, .back rfl ?_⟩
      simp +contextual only [go_sem, ↓reduceIte, Nat.reduceEqDiff, Nat.reduceAdd, Nat.reduceLeDiff, Nat.reduceLT, reduceCtorEq, grt_app, endE_app]
  · cases h
end Go.Proofs.Ytnafhnnhhdmnfaa
