/- Settlement between two parties. -/
import Derived.Test.YtalhbhbkdfmhgaaSum25
import Derived.Test.YtalhbhbkdfmhgaaRoam48k
namespace Go.Proofs.Ytalhbhbkdfmhgaa
set_option linter.all false
open Go.Idl
set_option linter.all false
set_option maxHeartbeats 16000000
set_option maxRecDepth 100000
attribute [local go_sem] agPty agCdr agDis eqDis agDir agObj eqItm Try.underlying3 Try.underlying5 Try.underlying9 Try.underlying4
@[ext] structure SpanD where
  lo : Int
  hi : Int
def SpanD.dec : V → Option SpanD
  | .agg [c0, c1] => bO (Cod.dec c0 : Option (Int)) fun a0 => bO (Cod.dec c1 : Option (Int)) fun a1 => some (.mk a0 a1)
  | _ => none
instance : Cod SpanD where
  enc := fun d => .agg [Cod.enc d.lo, Cod.enc d.hi]
  dec := SpanD.dec
  sz := 2
  len := fun _ => rfl
  dec_enc := fun d => by
    simp only [SpanD.dec, Cod.dec_enc, bO_some]
  le := fun v a h => by
    unfold SpanD.dec at h
    split at h
    · simp only [bO_eq] at h
      obtain ⟨a0, h0, a1, h1, he⟩ := h
      cases he
      exact .agg (.cons (Cod.le _ _ h0).le (.cons (Cod.le _ _ h1).le .nil))
    · cases h
@[go_sem ↓] theorem SpanD.enc_eq (d : SpanD) : Cod.enc d = .agg [Cod.enc d.lo, Cod.enc d.hi] := rfl
@[go_sem ↓] theorem SpanD.dec_eq (c0 c1 : V) : (Cod.dec (.agg [c0, c1]) : Option SpanD) = bO (Cod.dec c0 : Option (Int)) fun a0 => bO (Cod.dec c1 : Option (Int)) fun a1 => some (.mk a0 a1) := rfl
@[go_sem] theorem SpanD.eta (d : SpanD) : SpanD.mk d.lo d.hi = d := rfl
@[go_sem ↓] theorem SpanD.sz_eq : Cod.sz SpanD = 2 := rfl
@[ext] structure BalD where
  creditor : ByteArray
  debtor : ByteArray
  currency : ByteArray
  amount : Int
def BalD.dec : V → Option BalD
  | .agg [c0, c1, c2, c3] => bO (Cod.dec c0 : Option (ByteArray)) fun a0 => bO (Cod.dec c1 : Option (ByteArray)) fun a1 => bO (Cod.dec c2 : Option (ByteArray)) fun a2 => bO (Cod.dec c3 : Option (Int)) fun a3 => some (.mk a0 a1 a2 a3)
  | _ => none
instance : Cod BalD where
  enc := fun d => .agg [Cod.enc d.creditor, Cod.enc d.debtor, Cod.enc d.currency, Cod.enc d.amount]
  dec := BalD.dec
  sz := 4
  len := fun _ => rfl
  dec_enc := fun d => by
    simp only [BalD.dec, Cod.dec_enc, bO_some]
  le := fun v a h => by
    unfold BalD.dec at h
    split at h
    · simp only [bO_eq] at h
      obtain ⟨a0, h0, a1, h1, a2, h2, a3, h3, he⟩ := h
      cases he
      exact .agg (.cons (Cod.le _ _ h0).le (.cons (Cod.le _ _ h1).le (.cons (Cod.le _ _ h2).le (.cons (Cod.le _ _ h3).le .nil))))
    · cases h
@[go_sem ↓] theorem BalD.enc_eq (d : BalD) : Cod.enc d = .agg [Cod.enc d.creditor, Cod.enc d.debtor, Cod.enc d.currency, Cod.enc d.amount] := rfl
@[go_sem ↓] theorem BalD.dec_eq (c0 c1 c2 c3 : V) : (Cod.dec (.agg [c0, c1, c2, c3]) : Option BalD) = bO (Cod.dec c0 : Option (ByteArray)) fun a0 => bO (Cod.dec c1 : Option (ByteArray)) fun a1 => bO (Cod.dec c2 : Option (ByteArray)) fun a2 => bO (Cod.dec c3 : Option (Int)) fun a3 => some (.mk a0 a1 a2 a3) := rfl
@[go_sem] theorem BalD.eta (d : BalD) : BalD.mk d.creditor d.debtor d.currency d.amount = d := rfl
@[go_sem ↓] theorem BalD.sz_eq : Cod.sz BalD = 4 := rfl
abbrev SIsC : List V → Option V := FT fun (t : ByteArray × Unit) => some (curS t.1)
theorem con74 {Φ : Specs} (hg : Idl.Good Try.prog Φ) : Contract Try.prog 74 (FT fun (t : ByteArray × Unit) => some (curS t.1)) := by
  refine conT hg k74 ic74 (by decide) fun C t r h => ?_
  obtain ⟨s, u⟩ := t
  cases h
  simp +contextual only [go_sem, ↓reduceIte, Nat.reduceEqDiff, Nat.reduceAdd, Nat.reduceLeDiff, Nat.reduceLT, reduceCtorEq, c74, k74]
  refine ⟨fun h => ?_, fun h => ?_⟩
  · have : ¬ s.size = 3 := by simp at h; omega
    simp [curS, this]
  · have h3 : s.size = 3 := by simp at h; omega
    refine TriI.loopL hg k74 s.data.toList (fun i (_ : Unit) => ⟨slotsL [(0, .sc (.string s)), (8, .sc (.int .i64 s.size)), (9, .sc (.int .i64 i))], objsL [], 0⟩) (fun xs _ => xs.all capB = s.data.toList.all capB) () (.back rfl ?_) rfl ?_ ?_
    · simp +contextual only [go_sem, ↓reduceIte, Nat.reduceEqDiff, Nat.reduceAdd, Nat.reduceLeDiff, Nat.reduceLT, reduceCtorEq]
      rfl
    · intro _ hinv
      simp +contextual only [go_sem, ↓reduceIte, Nat.reduceEqDiff, Nat.reduceAdd, Nat.reduceLeDiff, Nat.reduceLT, reduceCtorEq, k74, bytes_len, Int.lt_irrefl, decide_false]
      rw [curS, ← hinv, h3]; rfl
    · intro i _ b xs hd hlt hx hinv
      rw [bytes_len] at hlt
      have hw := wrap_nat hlt (by omega)
      simp +contextual only [go_sem, ↓reduceIte, Nat.reduceEqDiff, Nat.reduceAdd, Nat.reduceLeDiff, Nat.reduceLT, reduceCtorEq, k74, lt_dec hlt, hlt, bytes_get hx, Int.natCast_nonneg, Int.toNat_natCast]
      refine ⟨fun h => ?_, fun h => ⟨(), ?_, .back rfl ?_⟩⟩
      · rw [curS, ← hinv, List.all_cons, capB_eq, h]; simp
      · dsimp only; rw [← hinv, List.all_cons, capB_eq, h]; rfl
      · simp +contextual only [go_sem, ↓reduceIte, Nat.reduceEqDiff, Nat.reduceAdd, Nat.reduceLeDiff, Nat.reduceLT, reduceCtorEq, hw]
abbrev SPar : List V → Option V := FT fun (t : ByteArray × ByteArray × Unit) => if okName t.1 = true ∧ okName t.2.1 = true ∧ ¬ t.1 = t.2.1 then some (0 : Int) else none
theorem con73 {Φ : Specs} (hg : Idl.Good Try.prog Φ) (h12 : Φ 12 = some F12) : Contract Try.prog 73 SPar := by
  refine conT hg k73 ic73 (by decide) fun C t r h => ?_
  obtain ⟨a, b, u⟩ := t
  dsimp only at h
  split at h
  case isFalse => cases h
  rename_i hl
  obtain ⟨h1, h2, h3⟩ := hl
  cases h
  have h3' : decide (a = b) = false := decide_eq_false h3
  simp +contextual only [go_sem, ↓reduceIte, Nat.reduceEqDiff, Nat.reduceAdd, Nat.reduceLeDiff, Nat.reduceLT, reduceCtorEq, c73, k73, h12, F12, h1, h2, h3', Bool.not_true]
structure OkO (l : List CdrD) (ds : List Disp) (a b cur : ByteArray) (s : SpanD) : Prop where
  ll : l.length ≤ 10000
  ld : ds.length ≤ 10000
  cs : ∀ c ∈ l, cdrS c = 0 ∧ c.items.length ≤ 1000000
  dv : ∀ d ∈ ds, validD d = 0
  na : okName a = true
  nb : okName b = true
  ab : ¬ a = b
  hc : curS cur = true
  s0 : 0 ≤ s.lo
  s1 : s.lo ≤ s.hi
  s2 : s.hi ≤ 268435456
  dn : (ds.map Disp.cdr).Nodup
noncomputable abbrev SChO : List V → Option V := FT fun (t : List CdrD × List Disp × ByteArray × ByteArray × ByteArray × SpanD × Unit) => open Classical in if OkO t.1 t.2.1 t.2.2.1 t.2.2.2.1 t.2.2.2.2.1 t.2.2.2.2.2.1 then some (0 : Int) else none
theorem con63 {Φ : Specs} (hg : Idl.Good Try.prog Φ) (h15 : Φ 15 = some SCdr) (h53 : Φ 53 = some S53) (h73 : Φ 73 = some SPar) (h74 : Φ 74 = some SIsC) : Contract Try.prog 63 SChO := by
  refine conT hg k63 ic63 (by decide) fun C t r h => ?_
  obtain ⟨l, ds, a, b, cur, s, u⟩ := t
  dsimp only at h
  split at h
  case isFalse => cases h
  rename_i hl
  cases h
  obtain ⟨g1, g2, g3, g4, g5, g6, g7, g8, g9, g10, g11, g12⟩ := hl
  have hpar : okName a = true ∧ okName b = true ∧ ¬ a = b := ⟨g5, g6, g7⟩
  have t1 : decide (s.lo < 0) = false := decide_eq_false (by omega)
  have t2 : decide (s.lo > s.hi) = false := decide_eq_false (by omega)
  have t3 : decide (s.hi > 268435456) = false := decide_eq_false (by omega)
  simp +contextual only [go_sem, ↓reduceIte, Nat.reduceEqDiff, Nat.reduceAdd, Nat.reduceLeDiff, Nat.reduceLT, reduceCtorEq, c63, k63, List.length_map]
  refine TriI.loopL hg k63 l (fun i (_ : Unit) => ⟨slotsL [(1, Cod.enc ds), (2, .sc (.string a)), (3, .sc (.string b)), (4, .sc (.string cur)), (11, .ref 0 0 0), (12, .sc (.int .i64 0)), (20, Cod.enc l), (21, .sc (.int .i64 l.length)), (22, .sc (.int .i64 i))], objsL [.live 2 [Cod.enc s] true], 1⟩)
    (fun _ _ => True) () (.back rfl ?_) trivial ?_ ?_
  · simp +contextual only [go_sem, ↓reduceIte, Nat.reduceEqDiff, Nat.reduceAdd, Nat.reduceLeDiff, Nat.reduceLT, reduceCtorEq, List.length_map]
    rfl
  · intro _ _
    simp +contextual only [go_sem, ↓reduceIte, Nat.reduceEqDiff, Nat.reduceAdd, Nat.reduceLeDiff, Nat.reduceLT, reduceCtorEq, k63, Int.lt_irrefl, decide_false, List.length_map]
    refine TriI.loopL hg k63 ds (fun i (_ : Unit) => ⟨slotsL [(2, .sc (.string a)), (3, .sc (.string b)), (4, .sc (.string cur)), (11, .ref 0 0 0), (12, .sc (.int .i64 0)), (32, Cod.enc ds), (33, .sc (.int .i64 ds.length)), (34, .sc (.int .i64 i))], objsL [.live 2 [Cod.enc s] true], 1⟩)
      (fun _ _ => True) () (.back rfl ?_) trivial ?_ ?_
    · simp +contextual only [go_sem, ↓reduceIte, Nat.reduceEqDiff, Nat.reduceAdd, Nat.reduceLeDiff, Nat.reduceLT, reduceCtorEq, List.length_map]
      rfl
    · intro _ _
      simp +contextual only [go_sem, ↓reduceIte, Nat.reduceEqDiff, Nat.reduceAdd, Nat.reduceLeDiff, Nat.reduceLT, reduceCtorEq, k63, Int.lt_irrefl, decide_false, List.length_map, h73, h74, g5, g6, g7, not_false_eq_true, and_self, g8, t1, t2, t3, bne_self_eq_false, Bool.not_true]
    · intro i _ x xs hdr hlt hx _
      have hw := wrap_nat hlt (by omega)
      have e := g4 x (List.mem_of_getElem? hx)
      simp +contextual only [go_sem, ↓reduceIte, Nat.reduceEqDiff, Nat.reduceAdd, Nat.reduceLeDiff, Nat.reduceLT, reduceCtorEq, k63, lt_dec hlt, hx, hw, h53, e, bne_self_eq_false, List.length_map, List.getElem?_map, Option.map_some, Int.natCast_nonneg, Int.toNat_natCast]
      refine ⟨(), trivial, .back rfl ?_⟩
      simp +contextual only [go_sem, ↓reduceIte, Nat.reduceEqDiff, Nat.reduceAdd, Nat.reduceLeDiff, Nat.reduceLT, reduceCtorEq, List.length_map]
  · intro i _ x xs hdr hlt hx _
    have hw := wrap_nat hlt (by omega)
    have e := (g3 x (List.mem_of_getElem? hx)).1
    simp +contextual only [go_sem, ↓reduceIte, Nat.reduceEqDiff, Nat.reduceAdd, Nat.reduceLeDiff, Nat.reduceLT, reduceCtorEq, k63, lt_dec hlt, hx, hw, h15, e, bne_self_eq_false, List.length_map, List.getElem?_map, Option.map_some, Int.natCast_nonneg, Int.toNat_natCast]
    refine ⟨(), trivial, .back rfl ?_⟩
    simp +contextual only [go_sem, ↓reduceIte, Nat.reduceEqDiff, Nat.reduceAdd, Nat.reduceLeDiff, Nat.reduceLT, reduceCtorEq, List.length_map]
def grF (l : List Disp) : List Disp := l.filter fun d => decide (d.state = 4)
abbrev SGrn : List V → Option V := FT fun (t : List Disp × Unit) => if t.1.length ≤ 10000 ∧ (t.1.map Disp.cdr).Nodup then some ((⟨some (kvM Disp.cdr (grF t.1))⟩ : KM ByteArray Disp)) else none
theorem isF_kd {κ : Type} (m : List (κ × Disp)) : (valsM m).all V.isF = true := by
  simp only [valsM, List.all_map, List.all_eq_true]
  intro x _
  rfl
theorem con64 {Φ : Specs} (hg : Idl.Good Try.prog Φ) : Contract Try.prog 64 SGrn := by
  refine conT hg k64 ic64 (by decide) fun C t r h => ?_
  obtain ⟨l, u⟩ := t
  dsimp only at h
  split at h
  case isFalse => cases h
  rename_i hl
  obtain ⟨hl, hn⟩ := hl
  cases h
  simp +contextual only [go_sem, ↓reduceIte, Nat.reduceEqDiff, Nat.reduceAdd, Nat.reduceLeDiff, Nat.reduceLT, reduceCtorEq, c64, k64, List.length_map, Option.map_none]
  refine TriI.loopL hg k64 l (fun i (a : List Disp) => ⟨slotsL [(3, .mapr 0), (9, Cod.enc l), (10, .sc (.int .i64 l.length)), (11, .sc (.int .i64 i))], objsL [.ext (.map (keysM (kvM Disp.cdr (grF a))) (valsM (kvM Disp.cdr (grF a))))], 1⟩)
    (fun xs a => l = a ++ xs) [] (.back rfl ?_) rfl ?_ ?_
  · simp +contextual only [go_sem, ↓reduceIte, Nat.reduceEqDiff, Nat.reduceAdd, Nat.reduceLeDiff, Nat.reduceLT, reduceCtorEq, List.length_map]
    exact ⟨rfl, rfl, rfl⟩
  · intro a ha
    rw [List.append_nil] at ha
    subst ha
    simp +contextual only [go_sem, ↓reduceIte, Nat.reduceEqDiff, Nat.reduceAdd, Nat.reduceLeDiff, Nat.reduceLT, reduceCtorEq, k64, Int.lt_irrefl, decide_false, List.length_map, isF_kd]
  · intro i a x xs hdr hlt hx ha
    have hw := wrap_nat hlt (by omega)
    have hno : hasI Disp.cdr a x.cdr = false := by rw [ha] at hn; exact nodup_has hn
    have hno2 : hasI Disp.cdr (grF a) x.cdr = false := has_filter hno
    have hlk : lookM (kvM Disp.cdr (grF a)) x.cdr = none := by
      rw [look_kv]
      cases e : getI Disp.cdr (grF a) x.cdr with
      | none => rfl
      | some y => rw [hasI_get, e] at hno2; cases hno2
    have hput := put_kv Disp.cdr hno2
    cases hs : (x.state == 4) with
    | true =>
      have e1 : grF (a ++ [x]) = grF a ++ [x] := by unfold grF; rw [List.filter_append]; simp [beq_iff_eq.1 hs]
      simp +contextual only [go_sem, ↓reduceIte, Nat.reduceEqDiff, Nat.reduceAdd, Nat.reduceLeDiff, Nat.reduceLT, reduceCtorEq, k64, lt_dec hlt, hx, hw, hlk, hs, putF_kd, hput, Bool.not_false, List.length_map, List.getElem?_map, Option.map_some, Int.natCast_nonneg, Int.toNat_natCast]
      refine ⟨a ++ [x], by rw [ha]; simp, .back rfl ?_⟩
      simp +contextual only [go_sem, ↓reduceIte, Nat.reduceEqDiff, Nat.reduceAdd, Nat.reduceLeDiff, Nat.reduceLT, reduceCtorEq, low_kd, low_diss, e1]
    | false =>
      have e1 : grF (a ++ [x]) = grF a := by unfold grF; rw [List.filter_append]; simp [show ¬ x.state = 4 from by simpa using hs]
      simp +contextual only [go_sem, ↓reduceIte, Nat.reduceEqDiff, Nat.reduceAdd, Nat.reduceLeDiff, Nat.reduceLT, reduceCtorEq, k64, lt_dec hlt, hx, hw, hlk, hs, Bool.not_false, List.length_map, List.getElem?_map, Option.map_some, Int.natCast_nonneg, Int.toNat_natCast]
      refine ⟨a ++ [x], by rw [ha]; simp, .back rfl ?_⟩
      simp +contextual only [go_sem, ↓reduceIte, Nat.reduceEqDiff, Nat.reduceAdd, Nat.reduceLeDiff, Nat.reduceLT, reduceCtorEq, low_kd, low_diss, e1]
end Go.Proofs.Ytalhbhbkdfmhgaa
