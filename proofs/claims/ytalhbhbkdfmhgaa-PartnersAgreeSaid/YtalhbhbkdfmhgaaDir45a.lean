/- Objects of a directory: their errors, their keys, copies. -/
import Derived.Test.YtalhbhbkdfmhgaaIdent
namespace Go.Proofs.Ytalhbhbkdfmhgaa
set_option linter.all false
open Go.Idl
set_option maxHeartbeats 4000000
set_option maxRecDepth 100000
theorem agObj : agOf Try.prog 91 = some (some 6) := by kernel_rfl
theorem agDir : agOf Try.prog 26 = some (some 4) := by kernel_rfl
theorem agOK : agOf Try.prog 111 = some (some 3) := by kernel_rfl
attribute [local go_sem] agObj agDir agOK Try.underlying3 Try.underlying5 Try.underlying9
def consO : Option V → Option (List V) → Option (List V)
  | some x, some xs => some (x :: xs)
  | _, _ => none
@[go_sem ↓] theorem consO_some (x : V) (xs : List V) : consO (some x) (some xs) = some (x :: xs) := rfl
@[go_sem ↓] theorem freezeL_consO (h : Heap) (c : V) (cs : List V) : freezeL h (c :: cs) = consO (freezeC h c) (freezeL h cs) := by
  cases h1 : freezeC h c <;> cases h2 : freezeL h cs <;> simp [freezeL, consO, h1, h2]
@[go_sem ↓] theorem szK (k : IntKind) : Cod.sz (KInt k) = 1 := rfl
def chkO (o : ObjD) : Int := bif decide (o.kind < 1) || decide (o.kind > 8) then 2 else bif !okName o.id || !okName o.owner then 4 else bif decide (o.version < 1) || decide (o.version > 2147483647) then 2 else bif decide ((o.data.length : Int) > 4096) then 3 else 0
abbrev SChk : List V → Option V := FT fun (t : ObjD × Unit) => some (chkO t.1)
theorem con51 {Φ : Specs} (hg : Idl.Good Try.prog Φ) (h12 : Φ 12 = some F12) : Contract Try.prog 51 SChk := by
  refine conT hg k51 ic51 (by decide) fun C t r h => ?_
  obtain ⟨o, u⟩ := t
  cases h
  simp +contextual only [go_sem, ↓reduceIte, Nat.reduceEqDiff, Nat.reduceAdd, Nat.reduceLeDiff, Nat.reduceLT, reduceCtorEq, c51, k51, h12, F12, List.length_map]
  (repeat' (first | apply And.intro | intro _)) <;> simp only [chkO, *, cond_true, cond_false]
def keyO (o : ObjD) : OKeyD := ⟨o.kind, o.owner, o.id⟩
abbrev SKeyO : List V → Option V := FT fun (t : ObjD × Unit) => some (keyO t.1)
theorem con52 {Φ : Specs} (hg : Idl.Good Try.prog Φ) : Contract Try.prog 52 SKeyO := by
  refine conT hg k52 ic52 (by decide) fun C t r h => ?_
  obtain ⟨o, u⟩ := t
  cases h
  simp +contextual only [go_sem, ↓reduceIte, Nat.reduceEqDiff, Nat.reduceAdd, Nat.reduceLeDiff, Nat.reduceLT, reduceCtorEq, c52, k52]
  rfl
theorem isF_by (l : List (KInt .u8)) : (l.map Cod.enc).all V.isF = true := by
  simp only [List.all_map, List.all_eq_true]
  intro x _
  rfl
theorem len1_by (l : List (KInt .u8)) : (l.map Cod.enc).all (fun y => y.cells.length = 1) = true := by
  simp only [List.all_map, List.all_eq_true]
  intro x _
  rfl
theorem okE_by (l : List (KInt .u8)) : (l.map Cod.enc).all (okE 1) = true := by
  simp only [List.all_map, List.all_eq_true]
  intro x _
  rfl
abbrev SFre : List V → Option V := FT fun (t : ObjD × Unit) => if t.1.data.length ≤ 1000000 then some t.1 else none
theorem con55 {Φ : Specs} (hg : Idl.Good Try.prog Φ) : Contract Try.prog 55 SFre := by
  refine conT hg k55 ic55 (by decide) fun C t r h => ?_
  obtain ⟨o, u⟩ := t
  dsimp only at h
  split at h
  · rename_i hl
    cases h
    have c1 : r.data.length * 1 ≤ 68719476736 := by omega
    have c2 : r.data.length ≤ 4294967296 := by omega
    simp +contextual only [go_sem, ↓reduceIte, Nat.reduceEqDiff, Nat.reduceAdd, Nat.reduceLeDiff, Nat.reduceLT, reduceCtorEq, c55, k55, List.length_map, isF_by, len1_by, okE_by, c1, c2, and_self, decL_enc Cod.dec_enc, List.take_of_length_le, Nat.le_refl, Nat.zero_add]
  · cases h
abbrev SNewD : List V → Option V := FT fun (t : ByteArray × Unit) => some (bif okName t.1 then ((⟨t.1, [], [], 1⟩ : DirD), (0 : Int)) else (⟨⟨#[]⟩, [], [], 0⟩, 4))
theorem con13 {Φ : Specs} (hg : Idl.Good Try.prog Φ) (h12 : Φ 12 = some F12) : Contract Try.prog 13 SNewD := by
  refine conT hg k13 ic13 (by decide) fun C t r h => ?_
  obtain ⟨s, u⟩ := t
  cases h
  simp +contextual only [go_sem, ↓reduceIte, Nat.reduceEqDiff, Nat.reduceAdd, Nat.reduceLeDiff, Nat.reduceLT, reduceCtorEq, c13, k13, h12, F12]
  refine ⟨fun h => ?_, fun h => ?_⟩ <;> simp_all
def okDat (l : List ObjD) : Bool := l.all fun o => decide (o.data.length ≤ 1000000)
abbrev zeroC : V := .agg [.sc (.int .i64 0), .sc (.string ⟨#[]⟩), .sc (.string ⟨#[]⟩), .sc (.int .i64 0), .sc (.bool false), .sc (.slice none 0 0)]
theorem okDat_cons {x : ObjD} {xs : List ObjD} (h : okDat (x :: xs) = true) : x.data.length ≤ 1000000 ∧ okDat xs = true := by simpa [okDat] using h
def newsD : List ObjD → List Int → Int → List ObjD
  | o :: l, m :: ms, k => bif decide (m > k) then o :: newsD l ms k else newsD l ms k
  | _, _, _ => []
theorem isF_obs (l : List ObjD) : (l.map Cod.enc).all V.isF = true := by
  simp only [List.all_map, List.all_eq_true]
  intro x _
  rfl
theorem low_obs (n : Nat) (l : List ObjD) : (l.map Cod.enc).all (V.low n) = true := by
  simp only [List.all_map, List.all_eq_true]
  intro x _
  rfl
abbrev SSin : List V → Option V := FT fun (t : DirD × Int × Unit) => if t.1.objects.length ≤ 1000000 ∧ t.1.marks.length = t.1.objects.length ∧ okDat t.1.objects = true then some (newsD t.1.objects t.1.marks t.2.1, IntKind.i64.wrap (t.1.next - 1)) else none
theorem con41 {Φ : Specs} (hg : Idl.Good Try.prog Φ) (h55 : Φ 55 = some SFre) : Contract Try.prog 41 SSin := by
  refine conT hg k41 ic41 (by decide) fun C t r h => ?_
  obtain ⟨d, m, u⟩ := t
  dsimp only at h
  split at h
  · rename_i hl
    obtain ⟨hl, hm, hd⟩ := hl
    cases h
    simp +contextual only [go_sem, ↓reduceIte, Nat.reduceEqDiff, Nat.reduceAdd, Nat.reduceLeDiff, Nat.reduceLT, reduceCtorEq, c41, k41, List.length_map]
    have hz : (d.objects.zip d.marks).length = d.objects.length := by rw [List.length_zip]; omega
    have hz1 : (d.objects.zip d.marks).map (·.1) = d.objects := List.map_fst_zip (by omega)
    have hz2 : (d.objects.zip d.marks).map (·.2) = d.marks := List.map_snd_zip (by omega)
    refine TriI.loopL hg k41 (d.objects.zip d.marks) (fun i (a : List ObjD) => ⟨slotsL [(1, .sc (.int .i64 m)), (2, .ref 0 0 0), (6, .own 1 0 a.length), (10, Cod.enc d.objects), (11, .sc (.int .i64 d.objects.length)), (12, .sc (.int .i64 i))], objsL [.live 4 [Cod.enc d] true, .live 6 (a.map Cod.enc) true], 2⟩)
      (fun xs a => newsD d.objects d.marks m = a ++ newsD (xs.map (·.1)) (xs.map (·.2)) m ∧ okDat (xs.map (·.1)) = true ∧ a.length + xs.length ≤ 1000000) [] (.ren [some 0, none] rfl rfl 1 ?_) ?_ ?_ ?_
    · simp +contextual only [go_sem, ↓reduceIte, Nat.reduceEqDiff, Nat.reduceAdd, Nat.reduceLeDiff, Nat.reduceLT, reduceCtorEq, List.length_map, List.map_nil, List.length_nil]
      rfl
    · rw [hz1, hz2, hz]
      exact ⟨rfl, hd, by simpa using hl⟩
    · intro a hinv
      rw [hz]
      have hT : (a.map Cod.enc).take a.length = a.map Cod.enc := List.take_of_length_le (by simp)
      have h1 : newsD d.objects d.marks m = a := by rw [hinv.1]; simp [newsD]
      simp +contextual only [go_sem, ↓reduceIte, Nat.reduceEqDiff, Nat.reduceAdd, Nat.reduceLeDiff, Nat.reduceLT, reduceCtorEq, k41, Int.lt_irrefl, decide_false, Nat.zero_add, List.length_map, Nat.le_refl, isF_obs, hT, decL_enc Cod.dec_enc, h1, true_and, and_true]
      rfl
    · intro i a x xs hd hlt hx hinv
      rw [hz] at hlt
      have hw := wrap_nat hlt (by omega)
      obtain ⟨h1, h2, h3⟩ := hinv
      obtain ⟨hxd, h2⟩ := okDat_cons h2
      obtain ⟨hx1, hx2⟩ := List.getElem?_zip_eq_some.1 hx
      rw [List.length_cons] at h3
      have b1 : (a.length + 1) * 80 ≤ 68719476736 := by omega
      have b2 : a.length + 1 ≤ 4294967296 := by omega
      have hlm : i < d.marks.length := by omega
      simp +contextual only [go_sem, ↓reduceIte, Nat.reduceEqDiff, Nat.reduceAdd, Nat.reduceLeDiff, Nat.reduceLT, reduceCtorEq, k41, lt_dec hlt, lt_dec hlm, hx1, hx2, hw, h55, hxd, b1, b2, okE, List.length_map, List.getElem?_map, Option.map_some, Int.natCast_nonneg, Int.toNat_natCast, decL_enc Cod.dec_enc, Nat.zero_add, List.drop_zero, true_and, and_true]
      have hn : newsD (x.1 :: xs.map (·.1)) (x.2 :: xs.map (·.2)) m = bif decide (x.2 > m) then x.1 :: newsD (xs.map (·.1)) (xs.map (·.2)) m else newsD (xs.map (·.1)) (xs.map (·.2)) m := rfl
      refine ⟨fun h => ⟨a ++ [x.1], ⟨?_, h2, by simp; omega⟩, .ren [some 0, some 5] rfl rfl 1 ?_⟩, fun h => ⟨a, ⟨?_, h2, by omega⟩, .back rfl ?_⟩⟩
      · rw [h1, List.map_cons, List.map_cons, hn, h, cond_true]; simp
      · simp +contextual only [go_sem, ↓reduceIte, Nat.reduceEqDiff, Nat.reduceAdd, Nat.reduceLeDiff, Nat.reduceLT, reduceCtorEq, List.map_append, List.map_cons, List.map_nil, List.length_append, List.length_cons, List.length_nil, List.all_append, low_obs, Nat.zero_add]
      · rw [h1, List.map_cons, List.map_cons, hn, h, cond_false]
      · simp +contextual only [go_sem, ↓reduceIte, Nat.reduceEqDiff, Nat.reduceAdd, Nat.reduceLeDiff, Nat.reduceLT, reduceCtorEq, low_obs]
  · cases h
end Go.Proofs.Ytalhbhbkdfmhgaa
