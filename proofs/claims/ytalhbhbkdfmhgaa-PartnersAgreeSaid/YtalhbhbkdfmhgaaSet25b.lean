/- What is owed, and the balance. -/
import Derived.Test.YtalhbhbkdfmhgaaSet25
namespace Go.Proofs.Ytalhbhbkdfmhgaa
set_option linter.all false
open Go.Idl
set_option linter.all false
set_option maxHeartbeats 16000000
set_option maxRecDepth 100000
attribute [local go_sem] agPty agCdr agDis eqDis agDir agObj eqItm Try.underlying3 Try.underlying5 Try.underlying9 Try.underlying4
theorem agBal : agOf Try.prog 83 = some (some 4) := by kernel_rfl
attribute [local go_sem] agBal
def selO (a b cur : ByteArray) (s : SpanD) (c : CdrD) : Bool := !(!decide (c.operator = a) || !decide (c.provider = b) || !decide (c.currency = cur) || decide (c.stop < s.lo) || decide (c.stop ≥ s.hi))
def amtO (ds : List Disp) (c : CdrD) : Int := match getI Disp.cdr (grF ds) c.id with
  | some d => amountS c.id c.total [d]
  | none => c.total
def owedO (l : List CdrD) (ds : List Disp) (a b cur : ByteArray) (s : SpanD) : Int × Int := sumZ ((l.filter (selO a b cur s)).map (amtO ds))
def okAm (l : List CdrD) (ds : List Disp) : Prop := ∀ c ∈ l, inI (amtO ds c)
noncomputable abbrev SOwd : List V → Option V := FT fun (t : List CdrD × List Disp × ByteArray × ByteArray × ByteArray × SpanD × Unit) => open Classical in if OkO t.1 t.2.1 t.2.2.1 t.2.2.2.1 t.2.2.2.2.1 t.2.2.2.2.2.1 ∧ okAm t.1 t.2.1 then some (owedO t.1 t.2.1 t.2.2.1 t.2.2.2.1 t.2.2.2.2.1 t.2.2.2.2.2.1) else none
theorem low_ints2 (n : Nat) (l : List Int) : (l.map Cod.enc).all (V.low n) = true := List.all_eq_true.2 fun x hx => by
  obtain ⟨j, _, rfl⟩ := List.mem_map.1 hx
  rfl
theorem okE_one (z : Int) : okE 1 (.sc (.int .i64 z)) = true := rfl
theorem con50 {Φ : Specs} (hg : Idl.Good Try.prog Φ) (h63 : Φ 63 = some SChO) (h64 : Φ 64 = some SGrn) (h65 : Φ 65 = some SAmount) (h66 : Φ 66 = some SSum) : Contract Try.prog 50 SOwd := by
  refine conT hg k50 ic50 (by decide) fun C t r h => ?_
  obtain ⟨l, ds, a, b, cur, s, u⟩ := t
  dsimp only at h
  split at h
  case isFalse => cases h
  rename_i hl
  cases h
  obtain ⟨hO, hA⟩ := hl
  have g1 := hO.ll
  have g2 := hO.ld
  have g3 := hO.dn
  simp +contextual only [go_sem, ↓reduceIte, Nat.reduceEqDiff, Nat.reduceAdd, Nat.reduceLeDiff, Nat.reduceLT, reduceCtorEq, c50, k50, h63, h64, hO, g2, g3, and_self, bne_self_eq_false, List.length_map]
  refine TriI.loopL hg k50 l (fun i (acc : List Int) => ⟨slotsL [(2, .sc (.string a)), (3, .sc (.string b)), (4, .sc (.string cur)), (11, .ref 0 0 0), (12, .sc (.int .i64 0)), (13, .sc (.int .i64 0)), (15, .mapf (keysM (kvM Disp.cdr (grF ds))) (valsM (kvM Disp.cdr (grF ds)))), (16, .own 1 0 acc.length), (36, Cod.enc l), (37, .sc (.int .i64 l.length)), (38, .sc (.int .i64 i))],
      objsL [.live 2 [Cod.enc s] true, .live 1 (acc.map Cod.enc) true], 2⟩)
    (fun xs acc => (l.filter (selO a b cur s)).map (amtO ds) = acc ++ (xs.filter (selO a b cur s)).map (amtO ds) ∧ acc.length + xs.length ≤ 10000) [] (.ren [some 0, none] rfl rfl 1 ?_) ⟨rfl, by simpa using g1⟩ ?_ ?_
  · simp +contextual only [go_sem, ↓reduceIte, Nat.reduceEqDiff, Nat.reduceAdd, Nat.reduceLeDiff, Nat.reduceLT, reduceCtorEq, List.length_map, List.map_nil, List.length_nil]
    rfl
  · rintro acc ⟨hinv, hlen⟩
    rw [List.filter_nil, List.map_nil, List.append_nil] at hinv
    have hsum : (∀ n, n ∈ acc → inI n) ∧ acc.length ≤ 4611686018427387904 := ⟨fun n hn => by
      rw [← hinv] at hn
      obtain ⟨c, hc, rfl⟩ := List.mem_map.1 hn
      exact hA c (List.mem_filter.1 hc).1, by simp at hlen; omega⟩
    have hT : (acc.map Cod.enc : List V).take acc.length = acc.map Cod.enc := List.take_of_length_le (by simp)
    have e0 : owedO l ds a b cur s = sumZ acc := by rw [owedO, hinv]
    rw [e0]
    simp +contextual only [go_sem, ↓reduceIte, Nat.reduceEqDiff, Nat.reduceAdd, Nat.reduceLeDiff, Nat.reduceLT, reduceCtorEq, k50, Int.lt_irrefl, decide_false, List.length_map, h66, hsum, hT, Nat.zero_add, Nat.le_refl, isF_ints, decL_enc Cod.dec_enc, true_and, and_true]
    have he : (sumZ acc).2 = 0 ∨ sumZ acc = (0, 20) := by
      unfold sumZ; split
      · exact .inl rfl
      · exact .inr rfl
    refine ⟨fun h => ?_, fun h => ?_⟩
    · rcases he with he | he
      · rw [he] at h; cases h
      · rw [he]
    · rcases he with he | he
      · rw [← he]
      · rw [he] at h; cases h
  · rintro i acc x xs hdr hlt hx ⟨hinv, hlen⟩
    have hw := wrap_nat hlt (by omega)
    rw [List.length_cons] at hlen
    have b3 : (acc.length + 1) * 8 ≤ 68719476736 := by omega
    have b4 : acc.length + 1 ≤ 4294967296 := by omega
    cases hs : (!decide (x.operator = a) || !decide (x.provider = b) || !decide (x.currency = cur) || decide (x.stop < s.lo) || decide (x.stop ≥ s.hi)) with
    | true =>
      have e1 : selO a b cur s x = false := by rw [selO, hs]; rfl
      rw [List.filter_cons_of_neg (by rw [e1]; decide)] at hinv
      simp +contextual only [go_sem, ↓reduceIte, Nat.reduceEqDiff, Nat.reduceAdd, Nat.reduceLeDiff, Nat.reduceLT, reduceCtorEq, k50, lt_dec hlt, hx, hw, hs, List.length_map, List.getElem?_map, Option.map_some, Int.natCast_nonneg, Int.toNat_natCast]
      refine ⟨acc, ⟨hinv, by omega⟩, .back rfl ?_⟩
      simp +contextual only [go_sem, ↓reduceIte, Nat.reduceEqDiff, Nat.reduceAdd, Nat.reduceLeDiff, Nat.reduceLT, reduceCtorEq, List.length_map, low_ints2, low_cdrs, low_diss]
    | false =>
      have e1 : selO a b cur s x = true := by rw [selO, hs]; rfl
      rw [List.filter_cons_of_pos e1, List.map_cons] at hinv
      have hlk := look_kv Disp.cdr x.id (grF ds)
      cases e : getI Disp.cdr (grF ds) x.id with
      | none =>
        rw [e] at hlk
        have e2 : amtO ds x = x.total := by rw [amtO, e]
        rw [e2] at hinv
        have e3 : amountS x.id x.total [] = x.total := rfl
        simp +contextual only [go_sem, ↓reduceIte, Nat.reduceEqDiff, Nat.reduceAdd, Nat.reduceLeDiff, Nat.reduceLT, reduceCtorEq, k50, lt_dec hlt, hx, hw, hs, hlk, h65, e3, b3, b4, okE_one, List.length_map, List.length_nil, Nat.zero_le, List.getElem?_map, Option.map_some, Int.natCast_nonneg, Int.toNat_natCast, List.drop_zero, Nat.zero_add, true_and, and_true]
        refine ⟨acc ++ [x.total], ⟨by rw [hinv]; simp, by rw [List.length_append]; simp; omega⟩, .ren [some 0, some 7] rfl rfl 1 ?_⟩
        simp +contextual only [go_sem, ↓reduceIte, Nat.reduceEqDiff, Nat.reduceAdd, Nat.reduceLeDiff, Nat.reduceLT, reduceCtorEq, low_ints2, List.map_append, List.map_cons, List.map_nil, List.length_append, List.length_cons, List.length_nil, List.all_append, Nat.zero_add]
      | some d =>
        rw [e] at hlk
        have e2 : amtO ds x = amountS x.id x.total [d] := by rw [amtO, e]
        rw [e2] at hinv
        have l1 : [d].length ≤ 1000000 := by simp
        have l2 : 1 * 64 ≤ 68719476736 := by decide
        have l3 : 1 ≤ 4294967296 := by decide
        simp +contextual only [go_sem, ↓reduceIte, Nat.reduceEqDiff, Nat.reduceAdd, Nat.reduceLeDiff, Nat.reduceLT, reduceCtorEq, k50, lt_dec hlt, hx, hw, hs, hlk, h65, l1, l2, l3, b3, b4, okE_one, okE, List.length_map, List.length_nil, Nat.zero_le, List.getElem?_map, Option.map_some, Int.natCast_nonneg, Int.toNat_natCast, List.drop_zero, Nat.zero_add, true_and, and_true]
        refine ⟨acc ++ [amountS x.id x.total [d]], ⟨by rw [hinv]; simp, by rw [List.length_append]; simp; omega⟩, .ren [some 0, some 10] rfl rfl 1 ?_⟩
        simp +contextual only [go_sem, ↓reduceIte, Nat.reduceEqDiff, Nat.reduceAdd, Nat.reduceLeDiff, Nat.reduceLT, reduceCtorEq, low_ints2, List.map_append, List.map_cons, List.map_nil, List.length_append, List.length_cons, List.length_nil, List.all_append, Nat.zero_add]
def balO (a b cur : ByteArray) (x y : Int) : BalD × Int := bif decide (x < y) || (x == y && ltS b a) then (⟨b, a, cur, y - x⟩, 0) else (⟨a, b, cur, x - y⟩, 0)
def okBl (l : List CdrD) (ds : List Disp) (a b cur : ByteArray) (s : SpanD) : Prop := (OkO l ds a b cur s ∧ okAm l ds) ∧ (∃ x, owedO l ds a b cur s = (x, 0) ∧ -1000000000 ≤ x ∧ x ≤ 1000000000) ∧ (∃ y, owedO l ds b a cur s = (y, 0) ∧ -1000000000 ≤ y ∧ y ≤ 1000000000)
noncomputable abbrev SBlc : List V → Option V := FT fun (t : List CdrD × List Disp × ByteArray × ByteArray × ByteArray × SpanD × Unit) => open Classical in
  if okBl t.1 t.2.1 t.2.2.1 t.2.2.2.1 t.2.2.2.2.1 t.2.2.2.2.2.1 then some (balO t.2.2.1 t.2.2.2.1 t.2.2.2.2.1 (owedO t.1 t.2.1 t.2.2.1 t.2.2.2.1 t.2.2.2.2.1 t.2.2.2.2.2.1).1 (owedO t.1 t.2.1 t.2.2.2.1 t.2.2.1 t.2.2.2.2.1 t.2.2.2.2.2.1).1) else none
theorem OkO.turn {l : List CdrD} {ds : List Disp} {a b cur : ByteArray} {s : SpanD} (h : OkO l ds a b cur s) : OkO l ds b a cur s := ⟨h.ll, h.ld, h.cs, h.dv, h.nb, h.na, fun e => h.ab e.symm, h.hc, h.s0, h.s1, h.s2, h.dn⟩
theorem con30 {Φ : Specs} (hg : Idl.Good Try.prog Φ) (h50 : Φ 50 = some SOwd) : Contract Try.prog 30 SBlc := by
  refine conT hg k30 ic30 (by decide) fun C t r h => ?_
  obtain ⟨l, ds, a, b, cur, s, u⟩ := t
  dsimp only at h
  split at h
  case isFalse => cases h
  rename_i hl
  cases h
  obtain ⟨⟨hO, hA⟩, ⟨x, ex, x0, x1⟩, ⟨y, ey, y0, y1⟩⟩ := hl
  have hO2 := hO.turn
  rw [ex, ey]
  cases hs : (decide (x < y) || (x == y && ltS b a)) with
  | true =>
    have e0 : balO a b cur x y = (⟨b, a, cur, y - x⟩, 0) := by rw [balO, hs]; rfl
    have hxy : x ≤ y := by
      rw [Bool.or_eq_true, Bool.and_eq_true, decide_eq_true_eq, beq_iff_eq] at hs
      omega
    have w1 : IntKind.i64.wrap (y - x) = y - x := by rw [IntKind.wrap_i64]; omega
    have d1 : decide (y - x < 0) = false := decide_eq_false (by omega)
    simp +contextual only [go_sem, ↓reduceIte, Nat.reduceEqDiff, Nat.reduceAdd, Nat.reduceLeDiff, Nat.reduceLT, reduceCtorEq, c30, k30, h50, hO, hO2, hA, ex, ey, hs, e0, w1, d1, and_self, bne_self_eq_false]
    try rfl
  | false =>
    have e0 : balO a b cur x y = (⟨a, b, cur, x - y⟩, 0) := by rw [balO, hs]; rfl
    have hxy : y ≤ x := by
      rw [Bool.or_eq_false_iff, decide_eq_false_iff_not] at hs
      omega
    have w1 : IntKind.i64.wrap (x - y) = x - y := by rw [IntKind.wrap_i64]; omega
    have d1 : decide (x - y < 0) = false := decide_eq_false (by omega)
    simp +contextual only [go_sem, ↓reduceIte, Nat.reduceEqDiff, Nat.reduceAdd, Nat.reduceLeDiff, Nat.reduceLT, reduceCtorEq, c30, k30, h50, hO, hO2, hA, ex, ey, hs, e0, w1, d1, and_self, bne_self_eq_false]
    try rfl
end Go.Proofs.Ytalhbhbkdfmhgaa
