/- Tokens, and their keys. -/
import Derived.Test.YtlkejejgaenjcaaIdent
import Derived.Test.YtlkejejgaenjcaaCmp
namespace Go.Proofs.Ytlkejejgaenjcaa
set_option linter.all false
open Go.Idl
set_option maxHeartbeats 4000000
set_option maxRecDepth 100000
theorem agTok : agOf Try.prog 43 = some (some 6) := by kernel_rfl
theorem agLst : agOf Try.prog 24 = some (some 2) := by kernel_rfl
attribute [local go_sem] agTok agLst Try.underlying3 Try.underlying5 Try.underlying9 Try.underlying4
def tokS (t : TokD) : Int :=
  bif !okName t.id then 4 else bif (!decide (t.group = ⟨#[]⟩) && !okName t.group) || (!decide (t.contract = ⟨#[]⟩) && !okName t.contract) then 4
  else bif decide (t.kind < 1) || decide (t.kind > 3) then 2 else bif decide (t.status < 1) || decide (t.status > 3) then 2 else bif decide (t.expiry < -1) || decide (t.expiry > 268435456) then 2 else 0
theorem bool9 : ∀ a b c k l m n o p : Bool, (bif a then (4 : Int) else bif b || c then 4 else bif k || l then 2 else bif m || n then 2 else bif o || p then 2 else 0) = (bif a || b || c then 4 else bif k || l || m || n || o || p then 2 else 0) := by decide
theorem tok_eq (t : TokD) : tokS t = bif !okName t.id || (!decide (t.group = ⟨#[]⟩) && !okName t.group) || (!decide (t.contract = ⟨#[]⟩) && !okName t.contract) then 4
    else bif decide (t.kind < 1) || decide (t.kind > 3) || decide (t.status < 1) || decide (t.status > 3) || decide (t.expiry < -1) || decide (t.expiry > 268435456) then 2 else 0 := bool9 _ _ _ _ _ _ _ _ _
abbrev STok : List V → Option V := FT fun (t : TokD × Unit) => some (tokS t.1)
theorem con25 {Φ : Specs} (hg : Idl.Good Try.prog Φ) (h37 : Φ 37 = some F37) : Contract Try.prog 25 STok := by
  refine conT hg k25 ic25 (by decide) fun C t r h => ?_
  obtain ⟨t, u⟩ := t
  cases h
  simp +contextual only [go_sem, ↓reduceIte, Nat.reduceEqDiff, Nat.reduceAdd, Nat.reduceLeDiff, Nat.reduceLT, reduceCtorEq, c25, k25, h37, F37]
  (repeat' (first | apply And.intro | intro _)) <;> simp only [tokS, *, cond_true, cond_false]
theorem con28 {Φ : Specs} (hg : Idl.Good Try.prog Φ) (h39 : Φ 39 = some F37) : Contract Try.prog 28 STok := by
  refine conT hg k28 ic28 (by decide) fun C t r h => ?_
  obtain ⟨t, u⟩ := t
  cases h
  simp +contextual only [go_sem, ↓reduceIte, Nat.reduceEqDiff, Nat.reduceAdd, Nat.reduceLeDiff, Nat.reduceLT, reduceCtorEq, c28, k28, h39, F37]
  rw [tok_eq]
  (repeat' (first | apply And.intro | intro _)) <;> simp only [*, cond_true, cond_false]

/-! ### Keys -/
def ints (s : ByteArray) : List Int := s.data.toList.map fun b => (b.toNat : Int)
def bV (n : Int) : V := .sc (.int .u8 n)
theorem ints_len (s : ByteArray) : (ints s).length = s.size := by simp [ints]
theorem byV_ints (s : ByteArray) : byV s = (ints s).map bV := by simp [byV, ints, bV, Function.comp_def]
theorem ints_rng {s : ByteArray} {i : Nat} {x : Int} (h : (ints s)[i]? = some x) : 0 ≤ x ∧ x < 256 ∧ ((s.get! i).toNat : Int) = x := by
  rw [ints, List.getElem?_map, Option.map_eq_some_iff] at h
  obtain ⟨b, hb, rfl⟩ := h
  have := b.toNat_lt
  refine ⟨by omega, by omega, ?_⟩
  rw [Array.getElem?_toList] at hb
  have hi : i < s.data.size := (Array.getElem?_eq_some_iff.1 hb).1
  have : s.get! i = b := by
    show s.data[i]! = b
    rw [getElem!_pos s.data i hi]
    exact (Array.getElem?_eq_some_iff.1 hb).2
  rw [this]
theorem bytV_map (l : List Int) : bytV (l.map bV) = some l := by
  induction l with
  | nil => rfl
  | cons x l ih =>
    show (bytV (l.map bV)).map (x :: ·) = _
    rw [ih]; rfl
theorem isF_bV (l : List Int) : (l.map bV).all V.isF = true := by
  simp only [List.all_map, List.all_eq_true]
  intro x _
  rfl
theorem low_bV (n : Nat) (l : List Int) : (l.map bV).all (V.low n) = true := by
  simp only [List.all_map, List.all_eq_true]
  intro x _
  rfl
def keyB (s : ByteArray) : ByteArray := strOf ((ints s).map cap)
abbrev SKey : List V → Option V := FT fun (t : ByteArray × Unit) => if t.1.size ≤ 1000000 then some (keyB t.1) else none
/-- The bytes, of which so many are capitals. -/
def half (l : List Int) (i : Nat) : List Int := (l.take i).map cap ++ l.drop i
theorem half_len (l : List Int) (i : Nat) : (half l i).length = l.length := by simp [half]; omega
theorem half_get {l : List Int} {i : Nat} {x : Int} (h : l[i]? = some x) : (half l i)[i]? = some x := by
  have hi := (List.getElem?_eq_some_iff.1 h).1
  rw [half, List.getElem?_append_right (by simp; omega), List.length_map, List.length_take, Nat.min_eq_left (by omega), Nat.sub_self, List.getElem?_drop, Nat.add_zero]
  exact h
theorem half_set {l : List Int} {i : Nat} {x : Int} (h : l[i]? = some x) : (half l i).set i (cap x) = half l (i + 1) := by
  have hi := (List.getElem?_eq_some_iff.1 h).1
  have hd : l.drop i = x :: l.drop (i + 1) := by
    rw [List.drop_eq_getElem_cons hi]
    congr 1
    exact (List.getElem?_eq_some_iff.1 h).2
  have hl : ((l.take i).map cap).length = i := by simp; omega
  rw [half, half, List.set_append_right _ _ (by omega), hl, Nat.sub_self, hd, List.set_cons_zero, List.take_add_one, h]
  simp
theorem half_same {l : List Int} {i : Nat} {x : Int} (h : l[i]? = some x) (hx : cap x = x) : half l i = half l (i + 1) := by
  rw [← half_set h, hx]
  apply List.ext_getElem?
  intro j
  by_cases e : j = i
  · subst e
    rw [List.getElem?_set_self (by rw [half_len]; exact (List.getElem?_eq_some_iff.1 h).1), half_get h]
  · rw [List.getElem?_set_ne (fun h => e h.symm)]
theorem news_whole {H : Heap} {id len : Nat} {ys : List V} {mu : Bool} (hH : H id = .live 1 ys mu) (hl : ys.length = len) : news H 1 (.own id 0 len) = some ys := by
  rw [news_own, hH, elemsO_live, if_pos ⟨rfl, by omega⟩, List.drop_zero, List.take_of_length_le (by omega)]
theorem con30 {Φ : Specs} (hg : Idl.Good Try.prog Φ) : Contract Try.prog 30 SKey := by
  refine conT hg k30 ic30 (by decide) fun C t r h => ?_
  obtain ⟨s, u⟩ := t
  dsimp only at h
  split at h
  · rename_i hl
    cases h
    simp +contextual only [go_sem, ↓reduceIte, Nat.reduceEqDiff, Nat.reduceAdd, Nat.reduceLeDiff, Nat.reduceLT, reduceCtorEq, c30, k30]
    refine stepI_bytesS (e := 5) Try.underlying9 Try.underlying62 Try.underlying5 rfl rfl ?_ rfl
    rw [byV_ints]
    have hln := ints_len s
    simp +contextual only [go_sem, ↓reduceIte, Nat.reduceEqDiff, Nat.reduceAdd, Nat.reduceLeDiff, Nat.reduceLT, reduceCtorEq, k30]
    refine TriI.loopL hg k30 (ints s) (fun i (_ : Unit) => ⟨slotsL [(3, .own 0 0 s.size), (8, .own 0 0 s.size), (9, .sc (.int .i64 s.size)), (10, .sc (.int .i64 i))], objsL [.live 1 ((half (ints s) i).map bV) true], 1⟩) (fun _ _ => True) () (.back rfl ?_) trivial ?_ ?_
    · have h0 : half (ints s) 0 = ints s := by simp [half]
      simp +contextual only [go_sem, ↓reduceIte, Nat.reduceEqDiff, Nat.reduceAdd, Nat.reduceLeDiff, Nat.reduceLT, reduceCtorEq, low_bV, h0]
      trivial
    · intro _ _
      simp +contextual only [go_sem, ↓reduceIte, Nat.reduceEqDiff, Nat.reduceAdd, Nat.reduceLeDiff, Nat.reduceLT, reduceCtorEq, k30, Int.lt_irrefl, decide_false, hln]
      refine stepI_bytes (e := 5) Try.underlying62 Try.underlying5 Try.underlying9 rfl (news_whole rfl (by rw [List.length_map, half_len, hln])) (bytV_map _) (conv_none rfl) ?_
      have h0 : half (ints s) s.size = (ints s).map cap := by rw [← hln]; simp [half]
      simp +contextual only [go_sem, ↓reduceIte, Nat.reduceEqDiff, Nat.reduceAdd, Nat.reduceLeDiff, Nat.reduceLT, reduceCtorEq, k30, h0]
      rfl
    · intro i _ x xs hdr hlt hx _
      have hw := wrap_nat hlt (by omega)
      rw [hln] at hlt
      have hgi : ((half (ints s) i).map bV)[i]? = some (.sc (.int .u8 x)) := by rw [List.getElem?_map, half_get hx]; rfl
      obtain ⟨x0, x1, _⟩ := ints_rng hx
      have hli : (i : Int) < (s.size : Int) := by omega
      cases hc : decide (x ≥ 97) && decide (x ≤ 122) with
      | true =>
        have hc' : 97 ≤ x ∧ x ≤ 122 := by simpa using hc
        have w1 : IntKind.u8.wrap (x - 97) = x - 97 := by rw [IntKind.wrap_u8]; omega
        have w2 : IntKind.u8.wrap (x - 97 + 65) = cap x := by rw [IntKind.wrap_u8, cap, if_pos hc']; omega
        simp +contextual only [go_sem, ↓reduceIte, Nat.reduceEqDiff, Nat.reduceAdd, Nat.reduceLeDiff, Nat.reduceLT, reduceCtorEq, k30, lt_dec hlt, hx, hw, hln, hli, hgi, Int.natCast_nonneg, Int.toNat_natCast, Nat.zero_add, true_and, and_true, hc, w1, w2]
        have hset : ((half (ints s) i).map bV).set i (.sc (.int .u8 (cap x))) = (half (ints s) (i + 1)).map bV := by rw [← half_set hx, List.map_set]; rfl
        refine ⟨(), trivial, .back rfl ?_⟩
        simp +contextual only [go_sem, ↓reduceIte, Nat.reduceEqDiff, Nat.reduceAdd, Nat.reduceLeDiff, Nat.reduceLT, reduceCtorEq, hset, low_bV]
      | false =>
        have hcap : cap x = x := by
          rw [cap, if_neg]
          intro h
          simp at hc
          omega
        simp +contextual only [go_sem, ↓reduceIte, Nat.reduceEqDiff, Nat.reduceAdd, Nat.reduceLeDiff, Nat.reduceLT, reduceCtorEq, k30, lt_dec hlt, hx, hw, hln, hli, hgi, Int.natCast_nonneg, Int.toNat_natCast, Nat.zero_add, true_and, and_true, hc]
        have hsm := half_same hx hcap
        refine ⟨(), trivial, .back rfl ?_⟩
        simp +contextual only [go_sem, ↓reduceIte, Nat.reduceEqDiff, Nat.reduceAdd, Nat.reduceLeDiff, Nat.reduceLT, reduceCtorEq, ← hsm, low_bV]
  · cases h
theorem strOf_app (a b : List Int) : strOf (a ++ b) = strOf a ++ strOf b := by
  have hd : ∀ (l : List Int) (r : ByteArray), (l.foldl (fun r n => r.push (UInt8.ofNat n.toNat)) r).data.toList = r.data.toList ++ l.map fun n => UInt8.ofNat n.toNat := by
    intro l
    induction l with
    | nil => intro r; simp
    | cons n l ih => intro r; rw [List.foldl_cons, ih]; simp [ByteArray.push]
  have e : ∀ l : List Int, (strOf l).data.toList = l.map fun n => UInt8.ofNat n.toNat := fun l => by
    have := hd l ByteArray.empty
    exact this
  have h : (strOf (a ++ b)).data = (strOf a ++ strOf b).data := by
    apply Array.toList_inj.1
    rw [ByteArray.data_append, Array.toList_append, e, e, e, List.map_append]
  cases h1 : strOf (a ++ b)
  cases h2 : strOf a ++ strOf b
  rw [h1, h2] at h
  simpa using h
theorem strOf_size (l : List Int) : (strOf l).size = l.length := by
  induction l with
  | nil => rfl
  | cons x l ih =>
    have : strOf (x :: l) = strOf [x] ++ strOf l := strOf_app [x] l
    rw [this, ByteArray.size_append, ih]
    show 1 + l.length = _
    rw [List.length_cons]; omega
theorem con29 {Φ : Specs} (hg : Idl.Good Try.prog Φ) : Contract Try.prog 29 SKey := by
  refine conT hg k29 ic29 (by decide) fun C t r h => ?_
  obtain ⟨s, u⟩ := t
  dsimp only at h
  split at h
  · rename_i hl
    cases h
    have hln := ints_len s
    simp +contextual only [go_sem, ↓reduceIte, Nat.reduceEqDiff, Nat.reduceAdd, Nat.reduceLeDiff, Nat.reduceLT, reduceCtorEq, c29, k29]
    refine TriI.loopL hg k29 (ints s) (fun i (_ : Unit) => ⟨slotsL [(0, .sc (.string s)), (3, .sc (.string (strOf (((ints s).take i).map cap)))), (4, .sc (.int .i64 i))], objsL [], 0⟩) (fun _ _ => True) () (.back rfl ?_) trivial ?_ ?_
    · simp +contextual only [go_sem, ↓reduceIte, Nat.reduceEqDiff, Nat.reduceAdd, Nat.reduceLeDiff, Nat.reduceLT, reduceCtorEq, List.take_zero, List.map_nil]
      exact ⟨rfl, rfl⟩
    · intro _ _
      have h0 : (ints s).take s.size = ints s := by rw [← hln, List.take_length]
      simp +contextual only [go_sem, ↓reduceIte, Nat.reduceEqDiff, Nat.reduceAdd, Nat.reduceLeDiff, Nat.reduceLT, reduceCtorEq, k29, Int.lt_irrefl, decide_false, hln, h0]
      rfl
    · intro i _ x xs hdr hlt hx _
      have hw := wrap_nat hlt (by omega)
      rw [hln] at hlt
      obtain ⟨x0, x1, x2⟩ := ints_rng hx
      have hli : (i : Int).toNat < s.size := by omega
      have hcat : strOf (((ints s).take (i + 1)).map cap) = strOf (((ints s).take i).map cap) ++ strOf [cap x] := by
        rw [List.take_add_one, hx, List.map_append, strOf_app]; rfl
      have hsz : (((strOf (((ints s).take i).map cap)).size + (strOf [cap x]).size : Nat) : Int) ≤ IntKind.i64.max := by
        rw [strOf_size, strOf_size, List.length_map, List.length_take]
        simp only [List.length_singleton]
        have : IntKind.i64.max = 9223372036854775807 := rfl
        omega
      cases hc : decide (x ≥ 97) && decide (x ≤ 122) with
      | true =>
        have hc' : 97 ≤ x ∧ x ≤ 122 := by simpa using hc
        have w1 : IntKind.u8.wrap (x - 32) = cap x := by rw [IntKind.wrap_u8, cap, if_pos hc']; omega
        simp +contextual only [go_sem, ↓reduceIte, Nat.reduceEqDiff, Nat.reduceAdd, Nat.reduceLeDiff, Nat.reduceLT, reduceCtorEq, k29, lt_dec hlt, hw, hlt, Int.natCast_nonneg, Int.toNat_natCast, x2, hc, w1]
        refine stepI_bytes (e := 5) Try.underlying62 Try.underlying5 Try.underlying9 rfl (by exact news_whole rfl rfl) (show bytV [V.sc (.int .u8 (cap x))] = some [cap x] from rfl) (conv_none rfl) ?_
        simp +contextual only [go_sem, ↓reduceIte, Nat.reduceEqDiff, Nat.reduceAdd, Nat.reduceLeDiff, Nat.reduceLT, reduceCtorEq, k29, hw, hsz]
        refine ⟨(), trivial, .back rfl ?_⟩
        simp +contextual only [go_sem, ↓reduceIte, Nat.reduceEqDiff, Nat.reduceAdd, Nat.reduceLeDiff, Nat.reduceLT, reduceCtorEq, hcat]
      | false =>
        have hcap : cap x = x := by
          rw [cap, if_neg]
          intro h
          simp at hc
          omega
        rw [hcap] at hcat hsz
        simp +contextual only [go_sem, ↓reduceIte, Nat.reduceEqDiff, Nat.reduceAdd, Nat.reduceLeDiff, Nat.reduceLT, reduceCtorEq, k29, lt_dec hlt, hw, hlt, Int.natCast_nonneg, Int.toNat_natCast, x2, hc]
        refine stepI_bytes (e := 5) Try.underlying62 Try.underlying5 Try.underlying9 rfl (by exact news_whole rfl rfl) (show bytV [V.sc (.int .u8 x)] = some [x] from rfl) (conv_none rfl) ?_
        simp +contextual only [go_sem, ↓reduceIte, Nat.reduceEqDiff, Nat.reduceAdd, Nat.reduceLeDiff, Nat.reduceLT, reduceCtorEq, k29, hw, hsz]
        refine ⟨(), trivial, .back rfl ?_⟩
        simp +contextual only [go_sem, ↓reduceIte, Nat.reduceEqDiff, Nat.reduceAdd, Nat.reduceLeDiff, Nat.reduceLT, reduceCtorEq, hcat]
  · cases h
abbrev SByK : List V → Option V := FT fun (t : TokD × TokD × Unit) => if t.1.id.size ≤ 1000000 ∧ t.2.1.id.size ≤ 1000000 then some (cmpT (keyB t.1.id) (keyB t.2.1.id)) else none
theorem con26 {Φ : Specs} (hg : Idl.Good Try.prog Φ) (h30 : Φ 30 = some SKey) (h38 : Φ 38 = some (FT fun (t : ByteArray × ByteArray × Unit) => some (cmpT t.1 t.2.1))) : Contract Try.prog 26 SByK := by
  refine conT hg k26 ic26 (by decide) fun C t r h => ?_
  obtain ⟨a, b, u⟩ := t
  dsimp only at h
  split at h
  · rename_i hl
    obtain ⟨h1, h2⟩ := hl
    cases h
    simp +contextual only [go_sem, ↓reduceIte, Nat.reduceEqDiff, Nat.reduceAdd, Nat.reduceLeDiff, Nat.reduceLT, reduceCtorEq, c26, k26, h30, h38, h1, h2]
    rfl
  · cases h
end Go.Proofs.Ytlkejejgaenjcaa
