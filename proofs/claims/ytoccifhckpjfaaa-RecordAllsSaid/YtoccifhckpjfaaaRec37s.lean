/- Records of all transactions: the reference's walk. -/
import Derived.Test.YtoccifhckpjfaaaRec37r
namespace Go.Proofs.Ytoccifhckpjfaaa
set_option linter.all false
open Go.Idl
set_option maxHeartbeats 16000000
set_option maxRecDepth 100000
attribute [local go_sem] agRec agEv37 Try.underlying3 Try.underlying5 Try.underlying9 Try.underlying4 Try.underlying30 Try.underlying22 Try.underlying25
def refA (c : List EvD) (m : Int) : List (List ByteArray) → List RecD
  | [] => []
  | [a, b] :: ks => okR (makeE (c.filter (ofP a b)) m) ++ refA c m ks
  | _ :: ks => refA c m ks
def keyOk (c : List EvD) (k : List ByteArray) : Bool := match k with
  | [a, b] => gdE (c.filter (ofP a b))
  | _ => false
def allOk (c : List EvD) : Bool := decide (c.length ≤ 100000) && (keysF none c).all (keyOk c)
abbrev SAllR : List V → Option V := FT fun (t : List EvD × Int × Unit) => if allOk t.1 = true then some (refA t.1 t.2.1 (keysF none t.1)) else none
theorem keyOk_two {c : List EvD} {k : List ByteArray} (h : keyOk c k = true) : ∃ a b, k = [a, b] ∧ gdE (c.filter (ofP a b)) = true := by
  match k, h with
  | [a, b], h => exact ⟨a, b, rfl, h⟩
theorem con14 {Φ : Specs} (hg : Idl.Good Try.prog Φ) (h29 : Φ 29 = some SKeys) (h31 : Φ 31 = some SOfR) (h30 : Φ 30 = some SMkR) : Contract Try.prog 14 SAllR := by
  refine conT hg k14 ic14 (by decide) fun C t r h => ?_
  obtain ⟨c, m, u⟩ := t
  dsimp only at h
  by_cases hok : allOk c = true
  case neg => rw [if_neg hok] at h; cases h
  rw [if_pos hok] at h
  cases h
  rw [allOk, Bool.and_eq_true, decide_eq_true_eq] at hok
  obtain ⟨hl, hks⟩ := hok
  have hkl := keysF_len c none
  simp +contextual only [go_sem, ↓reduceIte, Nat.reduceEqDiff, Nat.reduceAdd, Nat.reduceLeDiff, Nat.reduceLT, reduceCtorEq, c14, k14, h29, hl, List.length_map]
  generalize keysF none c = ks at *
  refine TriI.loopL hg k14 ks (fun i (acc : List RecD) => ⟨slotsL [(0, Cod.enc c), (1, .sc (.int .i64 m)), (4, .sc (.slice none 0 0)), (5, .own 0 0 acc.length), (11, Cod.enc ks), (12, .sc (.int .i64 ks.length)), (13, .sc (.int .i64 i))], objsL [.live 11 (acc.map Cod.enc) true], 1⟩)
    (fun xs acc => acc ++ refA c m xs = refA c m ks ∧ acc.length + xs.length ≤ ks.length ∧ xs.all (keyOk c) = true) [] (.ren [none] rfl rfl 0 ?_) ⟨rfl, by simp, hks⟩ ?_ ?_
  · simp +contextual only [go_sem, ↓reduceIte, Nat.reduceEqDiff, Nat.reduceAdd, Nat.reduceLeDiff, Nat.reduceLT, reduceCtorEq, List.length_map, List.length_nil, List.map_nil]
    rfl
  · rintro acc ⟨h1, h2, h3⟩
    have hacc : refA c m ks = acc := by rw [← h1, refA, List.append_nil]
    have hTk : (acc.map Cod.enc).take acc.length = acc.map Cod.enc := List.take_of_length_le (by simp)
    rw [hacc]
    simp +contextual only [go_sem, ↓reduceIte, Nat.reduceEqDiff, Nat.reduceAdd, Nat.reduceLeDiff, Nat.reduceLT, reduceCtorEq, k14, Int.lt_irrefl, decide_false, isF_recs, hTk, decL_enc Cod.dec_enc, List.length_map, Nat.zero_add, Nat.le_refl, List.drop_zero]
  · rintro i acc x xs hd hlt hx ⟨h1, h2, h3⟩
    have hw := wrap_nat hlt (by omega)
    rw [List.all_cons, Bool.and_eq_true] at h3
    obtain ⟨h3, h4⟩ := h3
    obtain ⟨a, b, rfl, hgd⟩ := keyOk_two h3
    have hnx : refA c m ([a, b] :: xs) = okR (makeE (c.filter (ofP a b)) m) ++ refA c m xs := rfl
    have hnext : (acc ++ okR (makeE (c.filter (ofP a b)) m)) ++ refA c m xs = refA c m ks := by rw [← h1, hnx, List.append_assoc]
    have hokl := okR_len (makeE (c.filter (ofP a b)) m)
    have b3 : (acc.length + 1) * 120 ≤ 68719476736 := by simp at h2; omega
    have b4 : acc.length + 1 ≤ 4294967296 := by simp at h2; omega
    generalize hres : makeE (c.filter (ofP a b)) m = res at *
    have i0 : ([V.sc (.string a), V.sc (.string b)] : List V)[Int.toNat 0]? = some (V.sc (.string a)) := rfl
    have i1 : ([V.sc (.string a), V.sc (.string b)] : List V)[Int.toNat 1]? = some (V.sc (.string b)) := rfl
    have p0 : ((0 : Int) ≤ 0) = True := eq_true (Int.le_refl 0)
    have p1 : ((0 : Int) ≤ 1) = True := eq_true (by decide)
    cases he : (res.2 == 0)
    all_goals simp +contextual only [go_sem, ↓reduceIte, Nat.reduceEqDiff, Nat.reduceAdd, Nat.reduceLeDiff, Nat.reduceLT, reduceCtorEq, k14, lt_dec hlt, hx, hw, he, hl, hgd, hres, i0, i1, p0, p1, b3, b4, okE, h31, h30, List.length_map, List.getElem?_map, Option.map_some, Option.map_none, Int.natCast_nonneg, Int.toNat_natCast, Nat.zero_add, List.drop_zero, true_and, and_true]
    · have hk : okR res = [] := by rw [okR, he]; rfl
      rw [hk, List.append_nil] at hnext
      exact ⟨by rfl, acc, ⟨hnext, by simp at h2; omega, h4⟩, .back rfl (by simp +contextual only [go_sem, ↓reduceIte, Nat.reduceEqDiff, Nat.reduceAdd, Nat.reduceLeDiff, Nat.reduceLT, reduceCtorEq, low_recs])⟩
    · have hk : okR res = [res.1] := by rw [okR, he]; rfl
      rw [hk] at hnext
      exact ⟨by rfl, acc ++ [res.1], ⟨hnext, by simp at h2 ⊢; omega, h4⟩, .ren [some 18] rfl rfl 0 (by simp +contextual only [go_sem, ↓reduceIte, Nat.reduceEqDiff, Nat.reduceAdd, Nat.reduceLeDiff, Nat.reduceLT, reduceCtorEq, List.map_append, List.map_cons, List.map_nil, List.length_append, List.length_cons, List.length_nil, List.all_append, low_recs, Nat.zero_add])⟩
end Go.Proofs.Ytoccifhckpjfaaa
