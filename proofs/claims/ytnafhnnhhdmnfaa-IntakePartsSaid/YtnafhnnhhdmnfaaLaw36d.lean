/- The law of orders. -/
import Derived.Test.YtnafhnnhhdmnfaaLaw36c
import Derived.Test.YtnafhnnhhdmnfaaSetLaw36
namespace Go.Proofs.Ytnafhnnhhdmnfaa
set_option linter.all false
open Go.Idl
set_option maxHeartbeats 4000000
set_option maxRecDepth 100000
attribute [local go_sem] Try.underlying3 Try.underlying5 Try.underlying9 Try.underlying4 agKey
def kC (n f : Nat) (b : Bool) (i : Nat) : Nat := bif b then n - 1 - (f + i) % n else (f + i) % n
theorem kC_lt {n f i : Nat} {b : Bool} (h : i < n) : kC n f b i < n := by
  have := Nat.mod_lt (f + i) (show n > 0 by omega)
  unfold kC; cases b <;> simp <;> omega
def seqC (l : List EvD) (f : Nat) (b : Bool) : List EvD := List.ofFn fun i : Fin l.length => l[kC l.length f b i]'(kC_lt i.isLt)
theorem seqC_len (l : List EvD) (f : Nat) (b : Bool) : (seqC l f b).length = l.length := by simp [seqC]
theorem seqC_at {l : List EvD} {f : Nat} {b : Bool} {i : Nat} {x : EvD} (h : (seqC l f b)[i]? = some x) : l[kC l.length f b i]? = some x := by
  obtain ⟨h1, h2⟩ := List.getElem?_eq_some_iff.1 h
  rw [seqC_len] at h1
  simp only [seqC, List.getElem_ofFn] at h2
  rw [List.getElem?_eq_getElem (kC_lt h1), h2]
theorem seqC_mem (l : List EvD) (f : Nat) (b : Bool) (x : EvD) : x ∈ seqC l f b ↔ x ∈ l := by
  constructor
  · intro h
    obtain ⟨i, hi⟩ := List.mem_iff_getElem?.1 h
    exact List.mem_of_getElem? (seqC_at hi)
  · intro h
    obtain ⟨j, hj, rfl⟩ := List.mem_iff_getElem.1 h
    have hpos : 0 < l.length := by omega
    have key : ∀ j, j < l.length → ∃ i, i < l.length ∧ (f + i) % l.length = j := fun j hj => by
      refine ⟨(j + (l.length - f % l.length)) % l.length, Nat.mod_lt _ hpos, ?_⟩
      have hf := Nat.mod_lt f hpos
      have : f % l.length + (j + (l.length - f % l.length)) = j + l.length := by omega
      rw [Nat.add_mod, Nat.mod_mod, ← Nat.add_mod]
      have h2 : (f + (j + (l.length - f % l.length))) % l.length = (f % l.length + (j + (l.length - f % l.length))) % l.length := by simp [Nat.add_mod]
      rw [h2, this, Nat.add_mod_right, Nat.mod_eq_of_lt hj]
    have key2 : ∃ i, i < l.length ∧ kC l.length f b i = j := by
      cases b with
      | false =>
        obtain ⟨i, h1, h2⟩ := key j hj
        exact ⟨i, h1, by simp [kC, h2]⟩
      | true =>
        obtain ⟨i, h1, h2⟩ := key (l.length - 1 - j) (by omega)
        exact ⟨i, h1, by simp [kC, h2]; omega⟩
    obtain ⟨i, h1, h2⟩ := key2
    rw [List.mem_iff_getElem]
    refine ⟨i, by rw [seqC_len]; exact h1, ?_⟩
    simp only [seqC, List.getElem_ofFn]
    congr 1
theorem rem_nat (a n : Nat) : ((a : Int)).tmod (n : Int) = ((a % n : Nat) : Int) := by
  rw [Int.tmod_eq_emod_of_nonneg (by omega)]; rfl
def outV (a : List EvD) : V := match a with
  | [] => .sc (.slice none 0 0)
  | _ :: _ => Cod.enc (foldC a ([], true)).1
theorem outV_app (a : List EvD) (x : EvD) : outV (a ++ [x]) = .slice 10 ((foldC (a ++ [x]) ([], true)).1.map Cod.enc) := by cases a <;> rfl
theorem outV_con (a : List EvD) (x : EvD) : outV (a.concat x) = .slice 10 ((foldC (a.concat x) ([], true)).1.map Cod.enc) := by rw [List.concat_eq_append]; exact outV_app a x
theorem foldC_app (a : List EvD) (x : EvD) (p : List EvD × Bool) : foldC (a ++ [x]) p = ((putS (foldC a p).1 x).1, (foldC a p).2 && okP (putS (foldC a p).1 x).2) := by
  simp [foldC, stepC]
abbrev SColl : List V → Option V := FT fun (t : List EvD × Int × Bool × Unit) => if 0 ≤ t.2.1 ∧ t.2.1 ≤ 1000 ∧ t.1.length ≤ 4096 then some (foldC (seqC t.1 t.2.1.toNat t.2.2.1) ([], true)) else none
theorem con24 {Φ : Specs} (hg : Idl.Good Try.prog Φ) (h13 : Φ 13 = some SPut) : Contract Try.prog 24 SColl := by
  refine conT hg k24 ic24 (by decide) fun C t r h => ?_
  obtain ⟨l, f, b, u⟩ := t
  dsimp only at h
  split at h
  · rename_i hpre
    obtain ⟨q1, q2, q3⟩ := hpre
    obtain ⟨f, rfl⟩ := Int.eq_ofNat_of_zero_le q1
    cases h
    rw [Int.toNat_natCast]
    have hsl := seqC_len l f b
    simp +contextual only [go_sem, ↓reduceIte, Nat.reduceEqDiff, Nat.reduceAdd, Nat.reduceLeDiff, Nat.reduceLT, reduceCtorEq, c24, k24]
    refine TriI.loopL hg k24 (seqC l f b) (fun i (a : List EvD) => ⟨slotsL [(0, Cod.enc l), (1, .sc (.int .i64 (f : Nat))), (2, .sc (.bool b)), (8, outV a), (9, .sc (.bool (foldC a ([], true)).2)), (10, .sc (.int .i64 i))], objsL [], 0⟩)
      (fun xs a => seqC l f b = a ++ xs) [] (.back rfl ?_) rfl ?_ ?_
    · simp +contextual only [go_sem, ↓reduceIte, Nat.reduceEqDiff, Nat.reduceAdd, Nat.reduceLeDiff, Nat.reduceLT, reduceCtorEq, outV, foldC, List.foldl_nil]
      rfl
    · intro a hinv
      rw [List.append_nil] at hinv
      subst hinv
      rw [hsl]
      rcases List.eq_nil_or_concat (seqC l f b) with hnil | ⟨a', y, hcon⟩
      · rw [hnil]
        simp +contextual only [go_sem, ↓reduceIte, Nat.reduceEqDiff, Nat.reduceAdd, Nat.reduceLeDiff, Nat.reduceLT, reduceCtorEq, k24, Int.lt_irrefl, decide_false, List.length_map, outV, foldC, List.foldl_nil]
      · rw [hcon]
        simp +contextual only [go_sem, ↓reduceIte, Nat.reduceEqDiff, Nat.reduceAdd, Nat.reduceLeDiff, Nat.reduceLT, reduceCtorEq, k24, Int.lt_irrefl, decide_false, List.length_map, outV_con]
    · intro i a x xs hd hlt hx hinv
      rw [hsl] at hlt
      have hw := wrap_nat hlt (by omega)
      have hx2 := seqC_at hx
      have hwf : IntKind.i64.wrap ((f : Int) + (i : Int)) = ((f + i : Nat) : Int) := by rw [IntKind.wrap_i64]; omega
      have hwl : IntKind.i64.wrap ((l.length : Int) - 1) = ((l.length - 1 : Nat) : Int) := by rw [IntKind.wrap_i64]; omega
      have hml := Nat.mod_lt (f + i) (show l.length > 0 by omega)
      have hwk : IntKind.i64.wrap (((l.length - 1 : Nat) : Int) - (((f + i) % l.length : Nat) : Int)) = ((l.length - 1 - (f + i) % l.length : Nat) : Int) := by rw [IntKind.wrap_i64]; omega
      have hnz : (l.length : Int) ≠ 0 := by omega
      have hcol : colS (foldC a ([], true)).1 = 0 := colS_ok.2 (foldC_coll a ([], true) coll_nil)
      have hnext : seqC l f b = a ++ [x] ++ xs := by rw [hinv]; simp
      have hap := foldC_app a x ([], true)
      rcases List.eq_nil_or_concat a with rfl | ⟨a', y, rfl⟩
      · have hc0 : colS [] = 0 := rfl
        have hf0 : foldC [] ([], true) = ([], true) := rfl
        have ho1 : outV [x] = .slice 10 ((putS [] x).1.map Cod.enc) := rfl
        have hfx : foldC [x] ([], true) = ((putS [] x).1, okP (putS [] x).2) := rfl
        cases b
        · have hk : l[(f + i) % l.length]? = some x := hx2
          simp +contextual only [go_sem, ↓reduceIte, Nat.reduceEqDiff, Nat.reduceAdd, Nat.reduceLeDiff, Nat.reduceLT, reduceCtorEq, k24, lt_dec hlt, hk, hw, hwf, hnz, ne_eq, not_false_eq_true, rem_nat, outV, hc0, h13, List.length_map, List.getElem?_map, Option.map_some, Int.natCast_nonneg, Int.toNat_natCast]
          refine ⟨[] ++ [x], hnext, .back rfl ?_⟩
          simp +contextual only [go_sem, ↓reduceIte, Nat.reduceEqDiff, Nat.reduceAdd, Nat.reduceLeDiff, Nat.reduceLT, reduceCtorEq, ho1, hf0, hfx, okP, Bool.true_and]
        · have hk : l[l.length - 1 - (f + i) % l.length]? = some x := hx2
          simp +contextual only [go_sem, ↓reduceIte, Nat.reduceEqDiff, Nat.reduceAdd, Nat.reduceLeDiff, Nat.reduceLT, reduceCtorEq, k24, lt_dec hlt, hk, hw, hwf, hwl, hwk, hnz, ne_eq, not_false_eq_true, rem_nat, outV, hc0, h13, List.length_map, List.getElem?_map, Option.map_some, Int.natCast_nonneg, Int.toNat_natCast]
          refine ⟨[] ++ [x], hnext, .back rfl ?_⟩
          simp +contextual only [go_sem, ↓reduceIte, Nat.reduceEqDiff, Nat.reduceAdd, Nat.reduceLeDiff, Nat.reduceLT, reduceCtorEq, ho1, hf0, hfx, okP, Bool.true_and]
      · cases b
        · have hk : l[(f + i) % l.length]? = some x := hx2
          simp +contextual only [go_sem, ↓reduceIte, Nat.reduceEqDiff, Nat.reduceAdd, Nat.reduceLeDiff, Nat.reduceLT, reduceCtorEq, k24, lt_dec hlt, hk, hw, hwf, hnz, ne_eq, not_false_eq_true, rem_nat, outV_con, hcol, h13, List.length_map, List.getElem?_map, Option.map_some, Int.natCast_nonneg, Int.toNat_natCast]
          refine ⟨a'.concat y ++ [x], hnext, .back rfl ?_⟩
          simp +contextual only [go_sem, ↓reduceIte, Nat.reduceEqDiff, Nat.reduceAdd, Nat.reduceLeDiff, Nat.reduceLT, reduceCtorEq, outV_app, hap, okP]
        · have hk : l[l.length - 1 - (f + i) % l.length]? = some x := hx2
          simp +contextual only [go_sem, ↓reduceIte, Nat.reduceEqDiff, Nat.reduceAdd, Nat.reduceLeDiff, Nat.reduceLT, reduceCtorEq, k24, lt_dec hlt, hk, hw, hwf, hwl, hwk, hnz, ne_eq, not_false_eq_true, rem_nat, outV_con, hcol, h13, List.length_map, List.getElem?_map, Option.map_some, Int.natCast_nonneg, Int.toNat_natCast]
          refine ⟨a'.concat y ++ [x], hnext, .back rfl ?_⟩
          simp +contextual only [go_sem, ↓reduceIte, Nat.reduceEqDiff, Nat.reduceAdd, Nat.reduceLeDiff, Nat.reduceLT, reduceCtorEq, outV_app, hap, okP]
  · cases h
theorem C24 : Contract Try.prog 24 SColl := con24 (good0.add (facts_enters ic13) C13) rfl
theorem put_again {c : List EvD} {x : EvD} (hc : Coll c) (hx : x ∈ c) : putR c x = (c, 9) := by
  unfold putR
  have h1 : (evS x != 0) = false := by simp [hc.ok x hx]
  simp only [h1, cond_false]
  cases hf : c.find? (hitR x) with
  | none => exact absurd (hit_key.2 rfl) (List.find?_eq_none.1 hf x hx)
  | some y =>
    have := hc.uniq (List.mem_of_find?_eq_some hf) hx (hit_key.1 (List.find?_some hf))
    subst this
    dsimp only
    rw [sameE_iff.2 rfl]; rfl
theorem con6 {Φ : Specs} (hg : Idl.Good Try.prog Φ) (h9 : Φ 9 = some SShort) (h10 : Φ 10 = some Aw) (h24 : Φ 24 = some SColl)
    (h13 : Φ 13 = some SPut) (h15 : Φ 15 = some SSameL) (h18 : Φ 18 = some SOf) :
    Contract Try.prog 6 (FT fun (_ : List EvD × KInt .u8 × Unit) => some true) := by
  refine conT hg k6 ic6 (by decide) fun C t r h => ?_
  obtain ⟨l, F, u⟩ := t
  cases h
  have f1' : 0 ≤ F.1 := F.2.1
  have f2' : F.1 ≤ 255 := F.2.2
  cases hsh : shortL l with
  | false => simp +contextual only [go_sem, ↓reduceIte, Nat.reduceEqDiff, Nat.reduceAdd, Nat.reduceLeDiff, Nat.reduceLT, reduceCtorEq, c6, k6, h9, h10, hsh]
  | true =>
    have hl30 : l.length ≤ 30 := by simp [shortL] at hsh; exact hsh.1
    have p0 : (0 : Int) ≤ 0 ∧ (0 : Int) ≤ 1000 ∧ l.length ≤ 4096 := ⟨by omega, by omega, by omega⟩
    cases hok : (foldC (seqC l (Int.toNat 0) false) ([], true)).2 with
    | false => simp +contextual only [go_sem, ↓reduceIte, Nat.reduceEqDiff, Nat.reduceAdd, Nat.reduceLeDiff, Nat.reduceLT, reduceCtorEq, c6, k6, h9, h10, hsh, h24, p0, hok, and_self]
    | true =>
      have p1 : 0 ≤ F.1 ∧ F.1 ≤ 1000 ∧ l.length ≤ 4096 := ⟨by omega, by omega, by omega⟩
      have p2 : 0 ≤ F.1 ∧ F.1 ≤ 1000 ∧ (l ++ l).length ≤ 4096 := ⟨by omega, by omega, by simp; omega⟩
      have p3 : l.length + l.length ≤ 4096 := by omega
      have hwF : IntKind.i64.wrap F.1 = F.1 := by rw [IntKind.wrap_i64]; omega
      have hB : foldC (seqC l F.1.toNat true) ([], true) = foldC (seqC l (Int.toNat 0) false) ([], true) := foldC_same hok (fun x => by rw [seqC_mem, seqC_mem]) (by rw [seqC_len]; omega)
      have hD : foldC (seqC (l ++ l) F.1.toNat false) ([], true) = foldC (seqC l (Int.toNat 0) false) ([], true) := foldC_same hok (fun x => by rw [seqC_mem, seqC_mem]; simp) (by rw [seqC_len]; simp; omega)
      have hA := foldC_coll (seqC l (Int.toNat 0) false) ([], true) coll_nil
      have hmem := foldC_mem (seqC l (Int.toNat 0) false) [] coll_nil hok
      obtain ⟨A, hAe⟩ : ∃ A, foldC (seqC l (Int.toNat 0) false) ([], true) = A := ⟨_, rfl⟩
      rw [hAe] at hok hB hD hA hmem
      have hrd := hA.rds
      have hcA := colS_ok.2 hA
      have s1 : ∀ z : List EvD, eqZ sameE z z = true := eqZ_self fun a => sameE_iff.2 rfl
      have hll : List.map (Cod.enc : EvD → V) l ++ List.map Cod.enc l = List.map Cod.enc (l ++ l) := by simp
      have b1 : l.length * 120 ≤ 68719476736 := by omega
      have b2 : l.length ≤ 4294967296 := by omega
      have b3 : (l.length + l.length) * 120 ≤ 68719476736 := by omega
      have b4 : l.length + l.length ≤ 4294967296 := by omega
      have b5 : List.take (l.length + l.length) (List.map (Cod.enc : EvD → V) (l ++ l)) = List.map Cod.enc (l ++ l) := List.take_of_length_le (by simp)
      simp +contextual only [go_sem, ↓reduceIte, Nat.reduceEqDiff, Nat.reduceAdd, Nat.reduceLeDiff, Nat.reduceLT, reduceCtorEq, c6, k6, h9, h10, hsh, h24, p0, p1, p2, p3, hwF, hAe, hok, hB, hD, hrd, s1, hll, b1, b2, b3, b4, b5, h15, and_self, List.length_map, List.length_append, isF_evs, okE_evs, Nat.zero_add, List.drop_nil, List.nil_append, List.drop_zero, List.length_nil, true_and, and_true, Nat.le_refl]
      refine TriI.loopL hg k6 l (fun i (_ : Unit) => ⟨slotsL [(0, Cod.enc l), (5, Cod.enc A.1), (11, .sc (.int .i64 i))], objsL [], 0⟩)
        (fun _ _ => True) () (.back rfl ?_) trivial ?_ ?_
      · simp +contextual only [go_sem, ↓reduceIte, Nat.reduceEqDiff, Nat.reduceAdd, Nat.reduceLeDiff, Nat.reduceLT, reduceCtorEq]
        rfl
      · intro _ _
        simp +contextual only [go_sem, ↓reduceIte, Nat.reduceEqDiff, Nat.reduceAdd, Nat.reduceLeDiff, Nat.reduceLT, reduceCtorEq, k6, Int.lt_irrefl, decide_false, List.length_map, h10]
      · intro i _ x xs hd hlt hx _
        have hw := wrap_nat hlt (by omega)
        have hxA : x ∈ A.1 := (hmem x).2 (.inr ((seqC_mem l _ _ x).2 (List.mem_of_getElem? hx)))
        have hput : putS A.1 x = (A.1, 9) := by rw [putS_eq hA]; exact put_again hA hxA
        have hseg : (((segB A.1 (kAt x.station x.txn)).length : Int) == 0) = false := by
          have hm : x ∈ segB A.1 (kAt x.station x.txn) := (seg_mem hA _).2 ⟨hxA, by rw [kAt_cmp]; exact cmpT_eq.2 ⟨rfl, rfl⟩⟩
          have : 0 < (segB A.1 (kAt x.station x.txn)).length := List.length_pos_of_mem hm
          simp; intro h; simp [h] at this
        simp +contextual only [go_sem, ↓reduceIte, Nat.reduceEqDiff, Nat.reduceAdd, Nat.reduceLeDiff, Nat.reduceLT, reduceCtorEq, k6, lt_dec hlt, hx, hw, hcA, hput, hseg, h13, h18, List.length_map, List.getElem?_map, Option.map_some, Int.natCast_nonneg, Int.toNat_natCast]
        refine ⟨rfl, (), trivial, .back rfl ?_⟩
        simp +contextual only [go_sem, ↓reduceIte, Nat.reduceEqDiff, Nat.reduceAdd, Nat.reduceLeDiff, Nat.reduceLT, reduceCtorEq, hw]
theorem C6 : Contract Try.prog 6 (FT fun (_ : List EvD × KInt .u8 × Unit) => some true) := by
  have g := good0
  have g := g.add (facts_enters ic9) C9
  have g := g.add (facts_enters ic10) conAw
  have g := g.add (facts_enters ic24) C24
  have g := g.add (facts_enters ic13) C13
  have g := g.add (facts_enters ic15) C15
  have g := g.add (facts_enters ic18) C18
  exact con6 g rfl rfl rfl rfl rfl rfl
end Go.Proofs.Ytnafhnnhhdmnfaa
