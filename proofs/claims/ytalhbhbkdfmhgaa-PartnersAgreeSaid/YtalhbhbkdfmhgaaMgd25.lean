/- Disputes of two parties, merged. -/
import Derived.Test.YtalhbhbkdfmhgaaRoam48o
namespace Go.Proofs.Ytalhbhbkdfmhgaa
set_option linter.all false
open Go.Idl
set_option maxHeartbeats 16000000
set_option maxRecDepth 100000
attribute [local go_sem] agPty agCdr agDis eqDis agDir agObj eqItm Try.underlying3 Try.underlying5 Try.underlying9 Try.underlying4
def rankS (s : Int) : Int := if s = 1 then 1 else if s = 2 then 2 else if s = 3 then 3 else if s = 6 then 4 else if s = 5 then 5 else if s = 4 then 6 else 0
abbrev SRnk : List V → Option V := FT fun (t : Int × Unit) => some (rankS t.1)
theorem con72 {Φ : Specs} (hg : Idl.Good Try.prog Φ) : Contract Try.prog 72 SRnk := by
  refine conT hg k72 ic72 (by decide) fun C t r h => ?_
  obtain ⟨s, u⟩ := t
  cases h
  simp +contextual only [go_sem, ↓reduceIte, Nat.reduceEqDiff, Nat.reduceAdd, Nat.reduceLeDiff, Nat.reduceLT, reduceCtorEq, c72, k72]
  (repeat' (first | apply And.intro | intro _)) <;> (try simp_all [rankS]) <;> (try omega)
def ordS (x y : Disp) : Int := firstNZ [cmpI (rankS x.state) (rankS y.state), cmpI x.granted y.granted, cmpI x.claim y.claim, cmpI x.opened y.opened, cmpT x.who y.who]
def furS (x y : Disp) : Disp := bif decide (ordS x y < 0) then y else x
abbrev SFur : List V → Option V := FT fun (t : Disp × Disp × Unit) => some (furS t.1 t.2.1)
theorem con59 {Φ : Specs} (hg : Idl.Good Try.prog Φ) (h72 : Φ 72 = some SRnk) (h70 : Φ 70 = some (FT fun (t : Int × Int × Unit) => some (cmpI t.1 t.2.1))) (h71 : Φ 71 = some (FT fun (t : ByteArray × ByteArray × Unit) => some (cmpT t.1 t.2.1)))
    (h69 : Φ 69 = some (FT fun (t : List Int × Unit) => if t.1.length ≤ 1000000 then some (firstNZ t.1) else none)) : Contract Try.prog 59 SFur := by
  refine conT hg k59 ic59 (by decide) fun C t r h => ?_
  obtain ⟨x, y, u⟩ := t
  cases h
  have l5 : [cmpI (rankS x.state) (rankS y.state), cmpI x.granted y.granted, cmpI x.claim y.claim, cmpI x.opened y.opened, cmpT x.who y.who].length ≤ 1000000 := by simp
  simp +contextual only [go_sem, ↓reduceIte, Nat.reduceEqDiff, Nat.reduceAdd, Nat.reduceLeDiff, Nat.reduceLT, reduceCtorEq, c59, k59, h72, h70, h71, h69, l5]
  refine ⟨rfl, fun h => ?_, fun h => ?_⟩
  · rw [furS, ordS, h]; rfl
  · rw [furS, ordS, h]; rfl
def plM : List Disp → Nat → List (ByteArray × Int)
  | [], _ => []
  | d :: l, i => (d.cdr, (i : Int)) :: plM l (i + 1)
theorem pl_app : ∀ (l : List Disp) (d : Disp) (i : Nat), plM (l ++ [d]) i = plM l i ++ [(d.cdr, ((i + l.length : Nat) : Int))]
  | [], d, i => rfl
  | x :: l, d, i => by
    rw [List.cons_append, plM, plM, pl_app l d (i + 1), List.length_cons, show i + 1 + l.length = i + (l.length + 1) by omega]; rfl
theorem pl_look : ∀ (l : List Disp) (i : Nat) (k : ByteArray), (hasI Disp.cdr l k = false ∧ lookM (plM l i) k = none) ∨ ∃ j : Nat, i ≤ j ∧ j < i + l.length ∧ lookM (plM l i) k = some (j : Int) ∧ ∃ x, l[j - i]? = some x ∧ x.cdr = k
  | [], i, k => .inl ⟨rfl, rfl⟩
  | x :: l, i, k => by
    by_cases h : k = x.cdr
    · refine .inr ⟨i, Nat.le_refl _, by simp, ?_, x, by simp, h.symm⟩
      simp [lookM, plM, h]
    · have e1 : lookM (plM (x :: l) i) k = lookM (plM l (i + 1)) k := by simp [lookM, plM, h]
      have e2 : hasI Disp.cdr (x :: l) k = hasI Disp.cdr l k := by simp [hasI, Ne.symm h]
      rw [e1, e2]
      rcases pl_look l (i + 1) k with h2 | ⟨j, h1, h2, h3, y, h4, h5⟩
      · exact .inl h2
      · refine .inr ⟨j, by omega, by rw [List.length_cons]; omega, h3, y, ?_, h5⟩
        rw [show j - i = (j - (i + 1)) + 1 by omega, List.getElem?_cons_succ]; exact h4
theorem pl_none {l : List Disp} {i : Nat} {k : ByteArray} (h : hasI Disp.cdr l k = false) : lookM (plM l i) k = none := by
  rcases pl_look l i k with h2 | ⟨j, _, _, _, y, h4, h5⟩
  · exact h2.2
  · have := hasI_mem.2 ⟨y, List.mem_of_getElem? h4, h5⟩
    rw [h] at this; cases this
theorem pl_put {l : List Disp} {d : Disp} (h : hasI Disp.cdr l d.cdr = false) : putM (plM l 0) d.cdr ((l.length : Nat) : Int) = plM (l ++ [d]) 0 := by
  have e := lookM_none.1 (pl_none (i := 0) h)
  rw [pl_app, putM, e, Nat.zero_add]
theorem low_ki {κ : Type} (n : Nat) (m : List (κ × Int)) : (valsM m).all (V.low n) = true := by
  simp only [valsM, List.all_map, List.all_eq_true]
  intro x _
  rfl
theorem putF_ki (id : Nat) (k : ByteArray) (j : Int) (m : List (ByteArray × Int)) : putF' id (.string k) (.sc (.int .i64 j)) (keysM m) (valsM m) (some (fidx m k)) = some (.any, [(id, .ext (.map (keysM (putM m k j)) (valsM (putM m k j))))]) := putF_typed id _ _ m k j rfl rfl
def mg1 (l out : List Disp) (d : Disp) : List Disp := match lookM (plM l 0) d.cdr with
  | some j => (match out[j.toNat]? with
    | some y => out.set j.toNat (furS y d)
    | none => out)
  | none => out ++ [d]
def mgD (l o : List Disp) : List Disp := o.foldl (mg1 l) l
abbrev SMgd : List V → Option V := FT fun (t : List Disp × List Disp × Unit) => if t.1.length ≤ 10000 ∧ t.2.1.length ≤ 10000 ∧ (t.1.map Disp.cdr).Nodup then some (mgD t.1 t.2.1) else none
theorem con44 {Φ : Specs} (hg : Idl.Good Try.prog Φ) (h59 : Φ 59 = some SFur) : Contract Try.prog 44 SMgd := by
  refine conT hg k44 ic44 (by decide) fun C t r h => ?_
  obtain ⟨l, o, u⟩ := t
  dsimp only at h
  split at h
  case isFalse => cases h
  rename_i hl
  obtain ⟨l1, l2, hnd⟩ := hl
  cases h
  have c1 : (0 : Int) ≤ (l.length : Int) := by omega
  simp +contextual only [go_sem, ↓reduceIte, Nat.reduceEqDiff, Nat.reduceAdd, Nat.reduceLeDiff, Nat.reduceLT, reduceCtorEq, c44, k44, List.length_map, c1]
  refine TriI.loopL hg k44 l (fun i (a : List Disp) => ⟨slotsL [(0, Cod.enc l), (1, Cod.enc o), (5, .mapr 0), (16, Cod.enc l), (17, .sc (.int .i64 l.length)), (18, .sc (.int .i64 i))], objsL [.ext (.map (keysM (plM a 0)) (valsM (plM a 0)))], 1⟩)
    (fun xs a => l = a ++ xs) [] (.back rfl ?_) rfl ?_ ?_
  · simp +contextual only [go_sem, ↓reduceIte, Nat.reduceEqDiff, Nat.reduceAdd, Nat.reduceLeDiff, Nat.reduceLT, reduceCtorEq, List.length_map]
    exact ⟨rfl, rfl, rfl⟩
  · rintro a ha
    rw [List.append_nil] at ha
    subst ha
    have b1 : l.length * 64 ≤ 68719476736 := by omega
    have b2 : l.length ≤ 4294967296 := by omega
    simp +contextual only [go_sem, ↓reduceIte, Nat.reduceEqDiff, Nat.reduceAdd, Nat.reduceLeDiff, Nat.reduceLT, reduceCtorEq, k44, Int.lt_irrefl, decide_false, List.length_map, Nat.zero_add, b1, b2, okE_diss, List.nil_append]
    refine TriI.loopL hg k44 o (fun i (a : List Disp) => ⟨slotsL [(5, .mapr 0), (8, .own 1 0 a.length), (30, Cod.enc o), (31, .sc (.int .i64 o.length)), (32, .sc (.int .i64 i))], objsL [.ext (.map (keysM (plM l 0)) (valsM (plM l 0))), .live 6 (a.map Cod.enc) true], 2⟩)
      (fun xs a => xs.foldl (mg1 l) a = mgD l o ∧ l.length ≤ a.length ∧ a.length + xs.length ≤ 20000) l (.ren [some 0, some 1] rfl rfl 1 ?_) ⟨rfl, Nat.le_refl _, by omega⟩ ?_ ?_
    · simp +contextual only [go_sem, ↓reduceIte, Nat.reduceEqDiff, Nat.reduceAdd, Nat.reduceLeDiff, Nat.reduceLT, reduceCtorEq, List.length_map, low_ki, low_diss]
      rfl
    · rintro a ⟨g1, g2, g3⟩
      have hT : (a.map Cod.enc).take a.length = a.map Cod.enc := List.take_of_length_le (by simp)
      rw [List.foldl_nil] at g1
      simp +contextual only [go_sem, ↓reduceIte, Nat.reduceEqDiff, Nat.reduceAdd, Nat.reduceLeDiff, Nat.reduceLT, reduceCtorEq, k44, Int.lt_irrefl, decide_false, List.length_map, Nat.zero_add, Nat.le_refl, isF_diss, hT, decL_enc Cod.dec_enc, true_and, and_true]
      exact g1
    · rintro i a x xs hdr hlt hx ⟨g1, g2, g3⟩
      have hw := wrap_nat hlt (by omega)
      rw [List.length_cons] at g3
      rw [List.foldl_cons] at g1
      rcases pl_look l 0 x.cdr with ⟨_, e⟩ | ⟨j, _, hj, e, _⟩
      · have e1 : mg1 l a x = a ++ [x] := by rw [mg1, e]
        rw [e1] at g1
        have b3 : (a.length + 1) * 64 ≤ 68719476736 := by omega
        have b4 : a.length + 1 ≤ 4294967296 := by omega
        simp +contextual only [go_sem, ↓reduceIte, Nat.reduceEqDiff, Nat.reduceAdd, Nat.reduceLeDiff, Nat.reduceLT, reduceCtorEq, k44, lt_dec hlt, hx, hw, e, b3, b4, okE, List.length_map, List.getElem?_map, Option.map_some, Int.natCast_nonneg, Int.toNat_natCast, List.drop_zero, Nat.zero_add, true_and, and_true]
        refine ⟨a ++ [x], ⟨g1, by rw [List.length_append]; omega, by rw [List.length_append]; simp; omega⟩, .ren [some 0, some 5] rfl rfl 1 ?_⟩
        simp +contextual only [go_sem, ↓reduceIte, Nat.reduceEqDiff, Nat.reduceAdd, Nat.reduceLeDiff, Nat.reduceLT, reduceCtorEq, low_ki, low_diss, List.map_append, List.map_cons, List.map_nil, List.length_append, List.length_cons, List.length_nil, List.all_append, Nat.zero_add]
      · have hja : j < a.length := by omega
        obtain ⟨y, hy⟩ : ∃ y, a[j]? = some y := ⟨_, List.getElem?_eq_getElem hja⟩
        have e1 : mg1 l a x = a.set j (furS y x) := by rw [mg1, e]; dsimp only; rw [Int.toNat_natCast, hy]
        rw [e1] at g1
        have hja' : ((j : Nat) : Int) < ((a.length : Nat) : Int) := by omega
        simp +contextual only [go_sem, ↓reduceIte, Nat.reduceEqDiff, Nat.reduceAdd, Nat.reduceLeDiff, Nat.reduceLT, reduceCtorEq, k44, lt_dec hlt, hx, hw, e, hy, hja', h59, List.length_map, List.getElem?_map, Option.map_some, Int.natCast_nonneg, Int.toNat_natCast, List.drop_zero, Nat.zero_add, true_and, and_true]
        refine ⟨rfl, a.set j (furS y x), ⟨g1, by rw [List.length_set]; omega, by rw [List.length_set]; omega⟩, .back rfl ?_⟩
        simp +contextual only [go_sem, ↓reduceIte, Nat.reduceEqDiff, Nat.reduceAdd, Nat.reduceLeDiff, Nat.reduceLT, reduceCtorEq, low_ki, low_diss, List.length_set, List.map_set]
        have := low_diss 2 (a.set j (furS y x))
        rw [List.map_set] at this
        exact this
  · rintro i a x xs hdr hlt hx ha
    have hw := wrap_nat hlt (by omega)
    have hno : hasI Disp.cdr a x.cdr = false := by rw [ha] at hnd; exact nodup_has hnd
    have hput := pl_put hno
    have hai : i = a.length := by
      have q1 := congrArg List.length ha
      have q2 := congrArg List.length hdr
      rw [List.length_append, List.length_cons] at q1
      rw [List.length_drop, List.length_cons] at q2
      omega
    rw [← hai] at hput
    simp +contextual only [go_sem, ↓reduceIte, Nat.reduceEqDiff, Nat.reduceAdd, Nat.reduceLeDiff, Nat.reduceLT, reduceCtorEq, k44, lt_dec hlt, hx, hw, putF_ki, hput, List.length_map, List.getElem?_map, Option.map_some, Int.natCast_nonneg, Int.toNat_natCast]
    refine ⟨a ++ [x], by rw [ha]; simp, .back rfl ?_⟩
    simp +contextual only [go_sem, ↓reduceIte, Nat.reduceEqDiff, Nat.reduceAdd, Nat.reduceLeDiff, Nat.reduceLT, reduceCtorEq, low_ki, low_diss]
end Go.Proofs.Ytalhbhbkdfmhgaa
