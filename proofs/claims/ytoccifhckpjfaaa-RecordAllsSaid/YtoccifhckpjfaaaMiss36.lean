/- The events of a transaction, missing numbers, keys. -/
import Derived.Test.YtoccifhckpjfaaaPutLaw36
namespace Go.Proofs.Ytoccifhckpjfaaa
set_option linter.all false
open Go.Idl
set_option maxHeartbeats 4000000
set_option maxRecDepth 100000
attribute [local go_sem] Try.underlying3 Try.underlying79 Try.underlying9 Try.underlying4
def ofP (x y : ByteArray) (e : EvD) : Bool := decide (e.station = x) && decide (e.txn = y)
abbrev SOfR : List V → Option V := FT fun (t : List EvD × ByteArray × ByteArray × Unit) => if t.1.length ≤ 100000 then some (t.1.filter (ofP t.2.1 t.2.2.1)) else none
theorem con31 {Φ : Specs} (hg : Idl.Good Try.prog Φ) : Contract Try.prog 31 SOfR := by
  refine conT hg k31 ic31 (by decide) fun C t r h => ?_
  obtain ⟨l, x, y, u⟩ := t
  dsimp only at h
  split at h
  · rename_i hl
    cases h
    simp +contextual only [go_sem, ↓reduceIte, Nat.reduceEqDiff, Nat.reduceAdd, Nat.reduceLeDiff, Nat.reduceLT, reduceCtorEq, c31, k31, List.length_map]
    refine TriI.loopL hg k31 l (fun i (a : List EvD) => ⟨slotsL [(0, Cod.enc l), (1, .sc (.string x)), (2, .sc (.string y)), (7, .own 0 0 (a.filter (ofP x y)).length), (8, .sc (.int .i64 i))], objsL [.live 10 ((a.filter (ofP x y)).map Cod.enc) true], 1⟩)
      (fun xs a => l = a ++ xs) [] (.ren [none] rfl rfl 0 ?_) rfl ?_ ?_
    · simp +contextual only [go_sem, ↓reduceIte, Nat.reduceEqDiff, Nat.reduceAdd, Nat.reduceLeDiff, Nat.reduceLT, reduceCtorEq, List.filter_nil, List.length_nil, List.map_nil]
      rfl
    · intro a hinv
      rw [List.append_nil] at hinv
      subst hinv
      simp +contextual only [go_sem, ↓reduceIte, Nat.reduceEqDiff, Nat.reduceAdd, Nat.reduceLeDiff, Nat.reduceLT, reduceCtorEq, k31, Int.lt_irrefl, decide_false, List.length_map, isF_evs, Nat.zero_add, Nat.le_refl, List.drop_zero, true_and, and_true]
      rw [List.take_of_length_le (by simp)]
      exact decL_enc Cod.dec_enc _
    · intro i a e xs hd hlt hx hinv
      have hw := wrap_nat hlt (by omega)
      have hfl : (a.filter (ofP x y)).length ≤ a.length := List.length_filter_le _ _
      have hal : a.length ≤ l.length := by rw [hinv]; simp
      have b1 : ((a.filter (ofP x y)).length + 1) * 120 ≤ 68719476736 := by omega
      have b2 : (a.filter (ofP x y)).length + 1 ≤ 4294967296 := by omega
      simp +contextual only [go_sem, ↓reduceIte, Nat.reduceEqDiff, Nat.reduceAdd, Nat.reduceLeDiff, Nat.reduceLT, reduceCtorEq, k31, lt_dec hlt, hx, hw, b1, b2, List.length_map, List.getElem?_map, Option.map_some, Int.natCast_nonneg, Int.toNat_natCast, Nat.zero_add, List.drop_zero, true_and, and_true, okE]
      refine ⟨fun hp => ⟨a ++ [e], by rw [hinv]; simp, .ren [some 2] rfl rfl 0 ?_⟩, fun hp => ⟨a ++ [e], by rw [hinv]; simp, .back rfl ?_⟩⟩
      · have hf : (a ++ [e]).filter (ofP x y) = a.filter (ofP x y) ++ [e] := by rw [List.filter_append, List.filter_cons_of_pos (p := ofP x y) hp, List.filter_nil]
        simp +contextual only [go_sem, ↓reduceIte, Nat.reduceEqDiff, Nat.reduceAdd, Nat.reduceLeDiff, Nat.reduceLT, reduceCtorEq, hf, List.map_append, List.map_cons, List.map_nil, List.length_append, List.length_cons, List.length_nil, List.all_append, low_evs, Nat.zero_add]
      · have hf : (a ++ [e]).filter (ofP x y) = a.filter (ofP x y) := by rw [List.filter_append, List.filter_cons_of_neg (by simpa [ofP] using hp), List.filter_nil, List.append_nil]
        simp +contextual only [go_sem, ↓reduceIte, Nat.reduceEqDiff, Nat.reduceAdd, Nat.reduceLeDiff, Nat.reduceLT, reduceCtorEq, hf, low_evs]
  · cases h
def newK (p : Option EvD) (e : EvD) : Bool := match p with
  | some q => !one q e
  | none => true
def keysF : Option EvD → List EvD → List (List ByteArray)
  | _, [] => []
  | p, e :: l => (bif newK p e then [[e.station, e.txn]] else []) ++ keysF (some e) l
theorem keysF_app (x : EvD) : ∀ (a : List EvD) (p : Option EvD), keysF p (a ++ [x]) = keysF p a ++ (bif newK (a.getLast?.or p) x then [[x.station, x.txn]] else [])
  | [], p => by simp [keysF]
  | y :: a, p => by
    simp only [List.cons_append, keysF, keysF_app x a (some y), List.append_assoc]
    congr 3
    cases a with
    | nil => rfl
    | cons z a => simp [List.getLast?_cons_cons, List.getLast?_eq_some_getLast]
theorem keysF_len : ∀ (l : List EvD) (p : Option EvD), (keysF p l).length ≤ l.length
  | [], _ => by simp [keysF]
  | e :: l, p => by
    have := keysF_len l (some e)
    simp only [keysF, List.length_append, List.length_cons]
    cases newK p e <;> simp <;> omega
abbrev SKeys : List V → Option V := FT fun (t : List EvD × Unit) => if t.1.length ≤ 100000 then some (keysF none t.1) else none
theorem low_keys (n : Nat) (l : List (List ByteArray)) : (l.map Cod.enc).all (V.low n) = true := by
  simp only [List.all_map, List.all_eq_true]
  intro x _
  rfl
theorem isF_keys (l : List (List ByteArray)) : (l.map Cod.enc).all V.isF = true := by
  simp only [List.all_map, List.all_eq_true]
  intro x _
  rfl
theorem con29 {Φ : Specs} (hg : Idl.Good Try.prog Φ) (h25 : Φ 25 = some SOne) : Contract Try.prog 29 SKeys := by
  refine conT hg k29 ic29 (by decide) fun C t r h => ?_
  obtain ⟨l, u⟩ := t
  dsimp only at h
  split at h
  · rename_i hl
    cases h
    simp +contextual only [go_sem, ↓reduceIte, Nat.reduceEqDiff, Nat.reduceAdd, Nat.reduceLeDiff, Nat.reduceLT, reduceCtorEq, c29, k29, List.length_map]
    refine TriI.loopL hg k29 l (fun i (a : List EvD) => ⟨slotsL [(0, Cod.enc l), (3, .own 0 0 (keysF none a).length), (4, .sc (.int .i64 i))], objsL [.live 1 ((keysF none a).map Cod.enc) true], 1⟩)
      (fun xs a => l = a ++ xs) [] (.ren [none] rfl rfl 0 ?_) rfl ?_ ?_
    · simp +contextual only [go_sem, ↓reduceIte, Nat.reduceEqDiff, Nat.reduceAdd, Nat.reduceLeDiff, Nat.reduceLT, reduceCtorEq, keysF, List.length_nil, List.map_nil, List.length_map]
      rfl
    · intro a hinv
      rw [List.append_nil] at hinv
      subst hinv
      simp +contextual only [go_sem, ↓reduceIte, Nat.reduceEqDiff, Nat.reduceAdd, Nat.reduceLeDiff, Nat.reduceLT, reduceCtorEq, k29, Int.lt_irrefl, decide_false, List.length_map, isF_keys, Nat.zero_add, Nat.le_refl, List.drop_zero, true_and, and_true]
      rw [List.take_of_length_le (by simp)]
      exact decL_enc Cod.dec_enc _
    · intro i a e xs hd hlt hx hinv
      have hw := wrap_nat hlt (by omega)
      have hi := drop_pre hd hinv
      have hfl := keysF_len a none
      have hal : a.length ≤ l.length := by rw [hinv]; simp
      have b1 : ((keysF none a).length + 1) * 24 ≤ 68719476736 := by omega
      have b2 : (keysF none a).length + 1 ≤ 4294967296 := by omega
      have hap := keysF_app e a none
      have hn : (a ++ [e]) ++ xs = l := by rw [hinv]; simp
      rcases List.eq_nil_or_concat a with rfl | ⟨a', y, rfl⟩
      · have hg0 : ((i : Int) == 0) = true := by simp at hi; simp [hi]
        have hp2 : keysF none [e] = keysF none [] ++ [[e.station, e.txn]] := rfl
        simp +contextual only [go_sem, ↓reduceIte, Nat.reduceEqDiff, Nat.reduceAdd, Nat.reduceLeDiff, Nat.reduceLT, reduceCtorEq, k29, lt_dec hlt, hx, hw, hg0, b1, b2, List.length_map, List.getElem?_map, Option.map_some, Int.natCast_nonneg, Int.toNat_natCast, Nat.zero_add, List.drop_zero, true_and, and_true, okE]
        refine ⟨rfl, rfl, [] ++ [e], hn.symm, .ren [some 29] rfl rfl 0 ?_⟩
        simp +contextual only [go_sem, ↓reduceIte, Nat.reduceEqDiff, Nat.reduceAdd, Nat.reduceLeDiff, Nat.reduceLT, reduceCtorEq, hp2, List.map_append, List.map_cons, List.map_nil, List.length_append, List.length_cons, List.length_nil, List.all_append, low_keys, Nat.zero_add]
      · have hg1 : ((i : Int) == 0) = false := by simp at hi ⊢; omega
        have hw1 : IntKind.i64.wrap ((i : Int) - 1) = ((i - 1 : Nat) : Int) := by
          have : 0 < i := by simp at hi; omega
          rw [IntKind.wrap_i64]; omega
        have hy : l[i - 1]? = some y := by
          rw [hinv, hi]; simp
        simp +contextual only [go_sem, ↓reduceIte, Nat.reduceEqDiff, Nat.reduceAdd, Nat.reduceLeDiff, Nat.reduceLT, reduceCtorEq, k29, lt_dec hlt, hx, hw, hg1, hw1, hy, b1, b2, h25, List.length_map, List.getElem?_map, Option.map_some, Int.natCast_nonneg, Int.toNat_natCast, Nat.zero_add, List.drop_zero, true_and, and_true, okE]
        have hnk : newK ((a'.concat y).getLast?.or none) e = !one y e := by
          simp only [List.concat_eq_append, List.getLast?_append, List.getLast?_singleton, Option.some_or, newK]
        rw [hnk] at hap
        refine ⟨rfl, fun hc => ⟨rfl, a'.concat y ++ [e], hn.symm, .ren [some 29] rfl rfl 0 ?_⟩, fun hc => ⟨a'.concat y ++ [e], hn.symm, .back rfl ?_⟩⟩
        · rw [hc] at hap
          simp +contextual only [go_sem, ↓reduceIte, Nat.reduceEqDiff, Nat.reduceAdd, Nat.reduceLeDiff, Nat.reduceLT, reduceCtorEq, hap, cond_true, List.map_append, List.map_cons, List.map_nil, List.length_append, List.length_cons, List.length_nil, List.all_append, low_keys, Nat.zero_add]
        · rw [hc] at hap
          simp +contextual only [go_sem, ↓reduceIte, Nat.reduceEqDiff, Nat.reduceAdd, Nat.reduceLeDiff, Nat.reduceLT, reduceCtorEq, hap, cond_false, List.append_nil, low_keys]
  · cases h
end Go.Proofs.Ytoccifhckpjfaaa
