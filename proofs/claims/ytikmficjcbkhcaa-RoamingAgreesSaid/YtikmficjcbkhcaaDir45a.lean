/- Objects of a directory: their errors, their keys, copies. -/
import Derived.Test.YtikmficjcbkhcaaIdent
namespace Go.Proofs.Ytikmficjcbkhcaa
set_option linter.all false
open Go.Idl
set_option maxHeartbeats 4000000
set_option maxRecDepth 100000
theorem agObj : agOf Try.prog 43 = some (some 6) := by kernel_rfl
theorem agDir : agOf Try.prog 25 = some (some 4) := by kernel_rfl
theorem agOK : agOf Try.prog 78 = some (some 3) := by kernel_rfl
attribute [local go_sem] agObj agDir agOK Try.underlying3 Try.underlying5 Try.underlying9
def consO : Option V → Option (List V) → Option (List V)
  | some x, some xs => some (x :: xs)
  | _, _ => none
@[go_sem ↓] theorem consO_some (x : V) (xs : List V) : consO (some x) (some xs) = some (x :: xs) := rfl
@[go_sem ↓] theorem freezeL_consO (h : Heap) (c : V) (cs : List V) : freezeL h (c :: cs) = consO (freezeC h c) (freezeL h cs) := by
  cases h1 : freezeC h c <;> cases h2 : freezeL h cs <;> simp [freezeL, consO, h1, h2]
@[go_sem ↓] theorem szK (k : IntKind) : Cod.sz (KInt k) = 1 := rfl
def chkO (o : ObjD) : Int := bif decide (o.kind < 1) || decide (o.kind > 8) then 2 else bif !okName o.id || !okName o.owner then 4 else bif decide (o.version < 1) || decide (o.version > 2147483647) then 2 else bif decide ((o.data.length : Int) > 4096) then 3 else 0
abbrev SChk : List V → Option V := FT fun (t : ObjD × Unit) => some (chkO t.1)
theorem con47 {Φ : Specs} (hg : Idl.Good Try.prog Φ) (h19 : Φ 19 = some F19) : Contract Try.prog 47 SChk := by
  refine conT hg k47 ic47 (by decide) fun C t r h => ?_
  obtain ⟨o, u⟩ := t
  cases h
  simp +contextual only [go_sem, ↓reduceIte, Nat.reduceEqDiff, Nat.reduceAdd, Nat.reduceLeDiff, Nat.reduceLT, reduceCtorEq, c47, k47, h19, F19, List.length_map]
  (repeat' (first | apply And.intro | intro _)) <;> simp only [chkO, *, cond_true, cond_false]
theorem con51 {Φ : Specs} (hg : Idl.Good Try.prog Φ) (h23 : Φ 23 = some F19) : Contract Try.prog 51 SChk := by
  refine conT hg k51 ic51 (by decide) fun C t r h => ?_
  obtain ⟨o, u⟩ := t
  cases h
  simp +contextual only [go_sem, ↓reduceIte, Nat.reduceEqDiff, Nat.reduceAdd, Nat.reduceLeDiff, Nat.reduceLT, reduceCtorEq, c51, k51, h23, F19, List.length_map]
  (repeat' (first | apply And.intro | intro _)) <;> simp only [chkO, *, cond_true, cond_false]
def keyO (o : ObjD) : OKeyD := ⟨o.kind, o.owner, o.id⟩
abbrev SKeyO : List V → Option V := FT fun (t : ObjD × Unit) => some (keyO t.1)
theorem con48 {Φ : Specs} (hg : Idl.Good Try.prog Φ) : Contract Try.prog 48 SKeyO := by
  refine conT hg k48 ic48 (by decide) fun C t r h => ?_
  obtain ⟨o, u⟩ := t
  cases h
  simp +contextual only [go_sem, ↓reduceIte, Nat.reduceEqDiff, Nat.reduceAdd, Nat.reduceLeDiff, Nat.reduceLT, reduceCtorEq, c48, k48]
  rfl
theorem isF_by (l : List (KInt .u8)) : (l.map Cod.enc).all V.isF = true := by
  simp only [List.all_map, List.all_eq_true]
  intro x _
  rfl
theorem len1_by (l : List (KInt .u8)) : (l.map Cod.enc).all (fun y => y.cells.length = 1) = true := by
  simp only [List.all_map, List.all_eq_true]
  intro x _
  rfl
theorem okE_by (l : List (KInt .u8)) : (l.map Cod.enc).all (okE 1) = true := by
  simp only [List.all_map, List.all_eq_true]
  intro x _
  rfl
abbrev SFre : List V → Option V := FT fun (t : ObjD × Unit) => if t.1.data.length ≤ 1000000 then some t.1 else none
theorem con78 {Φ : Specs} (hg : Idl.Good Try.prog Φ) : Contract Try.prog 78 SFre := by
  refine conT hg k78 ic78 (by decide) fun C t r h => ?_
  obtain ⟨o, u⟩ := t
  dsimp only at h
  split at h
  · rename_i hl
    cases h
    have c1 : r.data.length * 1 ≤ 68719476736 := by omega
    have c2 : r.data.length ≤ 4294967296 := by omega
    simp +contextual only [go_sem, ↓reduceIte, Nat.reduceEqDiff, Nat.reduceAdd, Nat.reduceLeDiff, Nat.reduceLT, reduceCtorEq, c78, k78, List.length_map, isF_by, len1_by, okE_by, c1, c2, and_self, decL_enc Cod.dec_enc, List.take_of_length_le, Nat.le_refl, Nat.zero_add]
  · cases h
abbrev SNewD : List V → Option V := FT fun (t : ByteArray × Unit) => some (bif okName t.1 then ((⟨t.1, [], [], 1⟩ : DirD), (0 : Int)) else (⟨⟨#[]⟩, [], [], 0⟩, 4))
theorem con27 {Φ : Specs} (hg : Idl.Good Try.prog Φ) (h19 : Φ 19 = some F19) : Contract Try.prog 27 SNewD := by
  refine conT hg k27 ic27 (by decide) fun C t r h => ?_
  obtain ⟨s, u⟩ := t
  cases h
  simp +contextual only [go_sem, ↓reduceIte, Nat.reduceEqDiff, Nat.reduceAdd, Nat.reduceLeDiff, Nat.reduceLT, reduceCtorEq, c27, k27, h19, F19]
  refine ⟨fun h => ?_, fun h => ?_⟩ <;> simp_all
def okDat (l : List ObjD) : Bool := l.all fun o => decide (o.data.length ≤ 1000000)
def isKey (k : OKeyD) (o : ObjD) : Bool := decide (o.kind = k.kind) && decide (o.owner = k.owner) && decide (o.id = k.id)
abbrev zeroC : V := .agg [.sc (.int .i64 0), .sc (.string ⟨#[]⟩), .sc (.string ⟨#[]⟩), .sc (.int .i64 0), .sc (.bool false), .sc (.slice none 0 0)]
theorem okDat_cons {x : ObjD} {xs : List ObjD} (h : okDat (x :: xs) = true) : x.data.length ≤ 1000000 ∧ okDat xs = true := by simpa [okDat] using h
def idxD : List ObjD → OKeyD → Nat → Int
  | [], _, _ => -1
  | x :: xs, k, i => bif isKey k x then (i : Int) else idxD xs k (i + 1)
abbrev SIdx : List V → Option V := FT fun (t : DirD × Int × Int × ByteArray × ByteArray × Unit) => if t.1.objects.length ≤ 1000000 ∧ 0 ≤ t.2.1 ∧ t.2.1 ≤ t.1.objects.length then some (idxD (t.1.objects.take t.2.1.toNat) ⟨t.2.2.1, t.2.2.2.1, t.2.2.2.2.1⟩ 0) else none
theorem isKey_eq2 (x : ObjD) (a : Int) (b c : ByteArray) : (x.kind == a && decide (x.owner = b) && decide (x.id = c)) = isKey ⟨a, b, c⟩ x := by
  rw [Bool.eq_iff_iff]; simp [isKey]
theorem idxD_yes {k : OKeyD} {x : ObjD} (xs : List ObjD) (i : Nat) (h : isKey k x = true) : idxD (x :: xs) k i = i := by simp only [idxD, h, cond_true]
theorem idxD_no {k : OKeyD} {x : ObjD} (xs : List ObjD) (i : Nat) (h : isKey k x = false) : idxD (x :: xs) k i = idxD xs k (i + 1) := by simp only [idxD, h, cond_false]
theorem con52 {Φ : Specs} (hg : Idl.Good Try.prog Φ) : Contract Try.prog 52 SIdx := by
  refine conT hg k52 ic52 (by decide) fun C t r h => ?_
  obtain ⟨d, n, kind, owner, id, u⟩ := t
  dsimp only at h
  split at h
  · rename_i hl
    obtain ⟨hl, hn0, hn1⟩ := hl
    obtain ⟨n, rfl⟩ := Int.eq_ofNat_of_zero_le hn0
    cases h
    have hn : n ≤ d.objects.length := by omega
    have hlt0 : (d.objects.take n).length = n := by simp; omega
    rw [Int.toNat_natCast]
    simp +contextual only [go_sem, ↓reduceIte, Nat.reduceEqDiff, Nat.reduceAdd, Nat.reduceLeDiff, Nat.reduceLT, reduceCtorEq, c52, k52, List.length_map]
    refine TriI.loopL hg k52 (d.objects.take n) (fun i (_ : Unit) => ⟨slotsL [(1, .sc (.int .i64 n)), (2, .sc (.int .i64 kind)), (3, .sc (.string owner)), (4, .sc (.string id)), (5, .ref 0 0 0), (11, .sc (.int .i64 i))], objsL [.live 4 [Cod.enc d] true], 1⟩)
      (fun xs _ => idxD xs ⟨kind, owner, id⟩ (n - xs.length) = idxD (d.objects.take n) ⟨kind, owner, id⟩ 0) () (.back rfl ?_) ?_ ?_ ?_
    · simp +contextual only [go_sem, ↓reduceIte, Nat.reduceEqDiff, Nat.reduceAdd, Nat.reduceLeDiff, Nat.reduceLT, reduceCtorEq, List.length_map]
      rfl
    · rw [hlt0, Nat.sub_self]
    · intro _ hinv
      rw [hlt0]
      simp +contextual only [go_sem, ↓reduceIte, Nat.reduceEqDiff, Nat.reduceAdd, Nat.reduceLeDiff, Nat.reduceLT, reduceCtorEq, k52, Int.lt_irrefl, decide_false]
      rw [← hinv]
      rfl
    · intro i _ x xs hd hlt hx hinv
      rw [hlt0] at hlt
      have hw := wrap_nat hlt (by omega)
      have hx' : d.objects[i]? = some x := by rw [List.getElem?_take, if_pos hlt] at hx; exact hx
      have hln := congrArg List.length hd
      rw [List.length_drop, hlt0, List.length_cons] at hln
      have hi : n - (x :: xs).length = i := by rw [List.length_cons]; omega
      rw [hi] at hinv
      simp +contextual only [go_sem, ↓reduceIte, Nat.reduceEqDiff, Nat.reduceAdd, Nat.reduceLeDiff, Nat.reduceLT, reduceCtorEq, k52, lt_dec hlt, hx', hw, List.getElem?_map, Option.map_some, Int.natCast_nonneg, Int.toNat_natCast]
      refine ⟨fun h => ?_, fun h => ⟨(), ?_, .back rfl ?_⟩⟩
      · rw [isKey_eq2] at h
        rw [← hinv, idxD_yes _ _ h]
      · rw [isKey_eq2] at h
        rw [← hinv, idxD_no _ _ h]
        congr 1
        omega
      · simp +contextual only [go_sem, ↓reduceIte, Nat.reduceEqDiff, Nat.reduceAdd, Nat.reduceLeDiff, Nat.reduceLT, reduceCtorEq]
  · cases h
theorem idxD_ge (xs : List ObjD) (k : OKeyD) : ∀ i : Nat, (idxD xs k i = -1 ∧ xs.find? (isKey k) = none) ∨ ∃ j : Nat, ∃ x, i ≤ j ∧ idxD xs k i = (j : Int) ∧ xs[j - i]? = some x ∧ xs.find? (isKey k) = some x := by
  induction xs with
  | nil => intro i; exact .inl ⟨rfl, rfl⟩
  | cons x xs ih =>
    intro i
    cases h : isKey k x with
    | true => exact .inr ⟨i, x, Nat.le_refl _, idxD_yes _ _ h, by simp, by simp [List.find?_cons, h]⟩
    | false =>
      rw [idxD_no _ _ h]
      rcases ih (i + 1) with ⟨h1, h2⟩ | ⟨j, y, h1, h2, h3, h4⟩
      · exact .inl ⟨h1, by simp [List.find?_cons, h, h2]⟩
      · refine .inr ⟨j, y, by omega, h2, ?_, by simp [List.find?_cons, h, h4]⟩
        rw [show j - i = (j - (i + 1)) + 1 by omega]
        simpa using h3
def newsD : List ObjD → List Int → Int → List ObjD
  | o :: l, m :: ms, k => bif decide (m > k) then o :: newsD l ms k else newsD l ms k
  | _, _, _ => []
theorem isF_obs (l : List ObjD) : (l.map Cod.enc).all V.isF = true := by
  simp only [List.all_map, List.all_eq_true]
  intro x _
  rfl
theorem low_obs (n : Nat) (l : List ObjD) : (l.map Cod.enc).all (V.low n) = true := by
  simp only [List.all_map, List.all_eq_true]
  intro x _
  rfl
abbrev SSin : List V → Option V := FT fun (t : DirD × Int × Unit) => if t.1.objects.length ≤ 1000000 ∧ t.1.marks.length = t.1.objects.length ∧ okDat t.1.objects = true then some (newsD t.1.objects t.1.marks t.2.1, IntKind.i64.wrap (t.1.next - 1)) else none
theorem con66 {Φ : Specs} (hg : Idl.Good Try.prog Φ) (h78 : Φ 78 = some SFre) : Contract Try.prog 66 SSin := by
  refine conT hg k66 ic66 (by decide) fun C t r h => ?_
  obtain ⟨d, m, u⟩ := t
  dsimp only at h
  split at h
  · rename_i hl
    obtain ⟨hl, hm, hd⟩ := hl
    cases h
    simp +contextual only [go_sem, ↓reduceIte, Nat.reduceEqDiff, Nat.reduceAdd, Nat.reduceLeDiff, Nat.reduceLT, reduceCtorEq, c66, k66, List.length_map]
    have hz : (d.objects.zip d.marks).length = d.objects.length := by rw [List.length_zip]; omega
    have hz1 : (d.objects.zip d.marks).map (·.1) = d.objects := List.map_fst_zip (by omega)
    have hz2 : (d.objects.zip d.marks).map (·.2) = d.marks := List.map_snd_zip (by omega)
    refine TriI.loopL hg k66 (d.objects.zip d.marks) (fun i (a : List ObjD) => ⟨slotsL [(1, .sc (.int .i64 m)), (2, .ref 0 0 0), (6, .own 1 0 a.length), (10, Cod.enc d.objects), (11, .sc (.int .i64 d.objects.length)), (12, .sc (.int .i64 i))], objsL [.live 4 [Cod.enc d] true, .live 6 (a.map Cod.enc) true], 2⟩)
      (fun xs a => newsD d.objects d.marks m = a ++ newsD (xs.map (·.1)) (xs.map (·.2)) m ∧ okDat (xs.map (·.1)) = true ∧ a.length + xs.length ≤ 1000000) [] (.ren [some 0, none] rfl rfl 1 ?_) ?_ ?_ ?_
    · simp +contextual only [go_sem, ↓reduceIte, Nat.reduceEqDiff, Nat.reduceAdd, Nat.reduceLeDiff, Nat.reduceLT, reduceCtorEq, List.length_map, List.map_nil, List.length_nil]
      rfl
    · rw [hz1, hz2, hz]
      exact ⟨rfl, hd, by simpa using hl⟩
    · intro a hinv
      rw [hz]
      have hT : (a.map Cod.enc).take a.length = a.map Cod.enc := List.take_of_length_le (by simp)
      have h1 : newsD d.objects d.marks m = a := by rw [hinv.1]; simp [newsD]
      simp +contextual only [go_sem, ↓reduceIte, Nat.reduceEqDiff, Nat.reduceAdd, Nat.reduceLeDiff, Nat.reduceLT, reduceCtorEq, k66, Int.lt_irrefl, decide_false, Nat.zero_add, List.length_map, Nat.le_refl, isF_obs, hT, decL_enc Cod.dec_enc, h1, true_and, and_true]
      rfl
    · intro i a x xs hd hlt hx hinv
      rw [hz] at hlt
      have hw := wrap_nat hlt (by omega)
      obtain ⟨h1, h2, h3⟩ := hinv
      obtain ⟨hxd, h2⟩ := okDat_cons h2
      obtain ⟨hx1, hx2⟩ := List.getElem?_zip_eq_some.1 hx
      rw [List.length_cons] at h3
      have b1 : (a.length + 1) * 80 ≤ 68719476736 := by omega
      have b2 : a.length + 1 ≤ 4294967296 := by omega
      have hlm : i < d.marks.length := by omega
      simp +contextual only [go_sem, ↓reduceIte, Nat.reduceEqDiff, Nat.reduceAdd, Nat.reduceLeDiff, Nat.reduceLT, reduceCtorEq, k66, lt_dec hlt, lt_dec hlm, hx1, hx2, hw, h78, hxd, b1, b2, okE, List.length_map, List.getElem?_map, Option.map_some, Int.natCast_nonneg, Int.toNat_natCast, decL_enc Cod.dec_enc, Nat.zero_add, List.drop_zero, true_and, and_true]
      have hn : newsD (x.1 :: xs.map (·.1)) (x.2 :: xs.map (·.2)) m = bif decide (x.2 > m) then x.1 :: newsD (xs.map (·.1)) (xs.map (·.2)) m else newsD (xs.map (·.1)) (xs.map (·.2)) m := rfl
      refine ⟨fun h => ⟨a ++ [x.1], ⟨?_, h2, by simp; omega⟩, .ren [some 0, some 5] rfl rfl 1 ?_⟩, fun h => ⟨a, ⟨?_, h2, by omega⟩, .back rfl ?_⟩⟩
      · rw [h1, List.map_cons, List.map_cons, hn, h, cond_true]; simp
      · simp +contextual only [go_sem, ↓reduceIte, Nat.reduceEqDiff, Nat.reduceAdd, Nat.reduceLeDiff, Nat.reduceLT, reduceCtorEq, List.map_append, List.map_cons, List.map_nil, List.length_append, List.length_cons, List.length_nil, List.all_append, low_obs, Nat.zero_add]
      · rw [h1, List.map_cons, List.map_cons, hn, h, cond_false]
      · simp +contextual only [go_sem, ↓reduceIte, Nat.reduceEqDiff, Nat.reduceAdd, Nat.reduceLeDiff, Nat.reduceLT, reduceCtorEq, low_obs]
  · cases h
end Go.Proofs.Ytikmficjcbkhcaa
