/- Calls in a row. -/
import Derived.Test.YtaagkdmmdgajjaaDir45i
import Derived.Test.YtaagkdmmdgajjaaDir45k
namespace Go.Proofs.Ytaagkdmmdgajjaa
set_option linter.all false
open Go.Idl
set_option maxHeartbeats 4000000
set_option maxRecDepth 100000
theorem agOp : agOf Try.prog 52 = some (some 2) := by kernel_rfl
attribute [local go_sem] eqOK agObj agDir agOK agSh agMk agOp Try.underlying3 Try.underlying5 Try.underlying9 Try.underlying4

def callS (d : DirD) (x : OpD) : DirD × Int × Int := bif x.kind == 1 && decide ((x.objects.length : Int) > 0) then
    match x.objects[0]? with
    | some o => ((putS d o).1, 0, (putS d o).2)
    | none => (d, 0, 0)
  else bif x.kind == 2 then ((mergeS d x.objects).1, (mergeS d x.objects).2, 0) else (d, 0, 0)
abbrev SCall : List V → Option V := FT fun (t : DirD × OpD × Unit) => if validDir t.1 = 0 ∧ t.2.1.objects.length ≤ 100000 ∧ t.1.next + t.2.1.objects.length < 4611686018427387904 then some (callS t.1 t.2.1) else none
theorem con22 {Φ : Specs} (hg : Idl.Good Try.prog Φ) (h29 : Φ 29 = some SPut) (h20 : Φ 20 = some SMrg) : Contract Try.prog 22 SCall := by
  refine conT hg k22 ic22 (by decide) fun C t r h => ?_
  obtain ⟨d, x, u⟩ := t
  dsimp only at h
  split at h
  · rename_i hl
    obtain ⟨hv, hlen, hnx⟩ := hl
    cases h
    have n1 : d.next < 4611686018427387904 := by omega
    have n2 : d.next + x.objects.length ≤ 4611686018427387904 := by omega
    cases hb1 : (x.kind == 1) with
    | true =>
      cases hb2 : decide ((x.objects.length : Int) > 0) with
      | true =>
        obtain ⟨o, ho⟩ : ∃ o, x.objects[0]? = some o := ⟨x.objects[0]'(by simp at hb2; omega), by simp⟩
        have hc : callS d x = ((putS d o).1, 0, (putS d o).2) := by simp only [callS, hb1, hb2, Bool.and_self, cond_true, ho]
        rw [hc]
        simp +contextual only [go_sem, ↓reduceIte, Nat.reduceEqDiff, Nat.reduceAdd, Nat.reduceLeDiff, Nat.reduceLT, reduceCtorEq, c22, k22, h29, h20, hv, hlen, n1, n2, and_self, hb1, hb2, ho, List.length_map, List.getElem?_map, Option.map_some, Int.le_refl, Int.toNat_zero, decL_enc Cod.dec_enc]
        trivial
      | false =>
        have hb3 : (x.kind == 2) = false := by simp at hb1; simp [hb1]
        have hc : callS d x = (d, 0, 0) := by simp only [callS, hb1, hb2, hb3, Bool.and_false, cond_false]
        rw [hc]
        simp +contextual only [go_sem, ↓reduceIte, Nat.reduceEqDiff, Nat.reduceAdd, Nat.reduceLeDiff, Nat.reduceLT, reduceCtorEq, c22, k22, h29, h20, hv, hlen, n1, n2, and_self, hb1, hb2, hb3, List.length_map, List.getElem?_map, Option.map_some, Int.le_refl, Int.toNat_zero, decL_enc Cod.dec_enc]
    | false =>
      cases hb3 : (x.kind == 2) with
      | true =>
        have hc : callS d x = ((mergeS d x.objects).1, (mergeS d x.objects).2, 0) := by simp only [callS, hb1, hb3, Bool.false_and, cond_false, cond_true]
        rw [hc]
        simp +contextual only [go_sem, ↓reduceIte, Nat.reduceEqDiff, Nat.reduceAdd, Nat.reduceLeDiff, Nat.reduceLT, reduceCtorEq, c22, k22, h29, h20, hv, hlen, n1, n2, and_self, hb1, hb3, List.length_map, List.getElem?_map, Option.map_some, Int.le_refl, Int.toNat_zero, decL_enc Cod.dec_enc]
      | false =>
        have hc : callS d x = (d, 0, 0) := by simp only [callS, hb1, hb3, Bool.false_and, cond_false]
        rw [hc]
        simp +contextual only [go_sem, ↓reduceIte, Nat.reduceEqDiff, Nat.reduceAdd, Nat.reduceLeDiff, Nat.reduceLT, reduceCtorEq, c22, k22, h29, h20, hv, hlen, n1, n2, and_self, hb1, hb3, List.length_map, List.getElem?_map, Option.map_some, Int.le_refl, Int.toNat_zero, decL_enc Cod.dec_enc]
  · cases h

/-! ### What is too long -/
def addW (n : Int) (k : Nat) : Int := IntKind.i64.wrap (n + k)
def lngO : List ObjD → Int → Nat → Bool
  | [], _, _ => false
  | o :: l, n, i => bif decide ((i : Int) ≥ 300) || decide (addW n o.data.length > 65536) || decide ((o.id.size : Int) > 4096) || decide ((o.owner.size : Int) > 4096) then true else lngO l (addW n o.data.length) (i + 1)
theorem lngO_len : ∀ {l : List ObjD} {n : Int} {i : Nat}, lngO l n i = false → i ≤ 300 → i + l.length ≤ 300
  | [], _, i, _, hi => by simpa using hi
  | o :: l, n, i, h, hi => by
    unfold lngO at h
    cases hb : (decide ((i : Int) ≥ 300) || decide (addW n o.data.length > 65536) || decide ((o.id.size : Int) > 4096) || decide ((o.owner.size : Int) > 4096)) with
    | true => rw [hb] at h; cases h
    | false =>
      rw [hb, cond_false] at h
      simp only [Bool.or_eq_false_iff, decide_eq_false_iff_not] at hb
      have := lngO_len h (by omega)
      rw [List.length_cons]
      omega
abbrev SLng : List V → Option V := FT fun (t : List ObjD × Unit) => if t.1.length ≤ 9223372036854775807 then some (lngO t.1 0 0) else none
theorem con8 {Φ : Specs} (hg : Idl.Good Try.prog Φ) : Contract Try.prog 8 SLng := by
  refine conT hg k8 ic8 (by decide) fun C t r h => ?_
  obtain ⟨l, u⟩ := t
  dsimp only at h
  split at h
  · rename_i hl
    cases h
    simp +contextual only [go_sem, ↓reduceIte, Nat.reduceEqDiff, Nat.reduceAdd, Nat.reduceLeDiff, Nat.reduceLT, reduceCtorEq, c8, k8, List.length_map]
    refine TriI.loopL hg k8 l (fun i (n : Int) => ⟨slotsL [(0, Cod.enc l), (3, .sc (.int .i64 n)), (6, .sc (.int .i64 l.length)), (7, .sc (.int .i64 i))], objsL [], 0⟩) (fun xs n => lngO xs n (l.length - xs.length) = lngO l 0 0) 0 (.back rfl ?_) (by rw [Nat.sub_self]) ?_ ?_
    · simp +contextual only [go_sem, ↓reduceIte, Nat.reduceEqDiff, Nat.reduceAdd, Nat.reduceLeDiff, Nat.reduceLT, reduceCtorEq]
      trivial
    · intro n hinv
      simp +contextual only [go_sem, ↓reduceIte, Nat.reduceEqDiff, Nat.reduceAdd, Nat.reduceLeDiff, Nat.reduceLT, reduceCtorEq, k8, Int.lt_irrefl, decide_false]
      exact hinv
    · intro i n x xs hdr hlt hx hinv
      have hw := wrap_nat hlt (by omega)
      have hwn : IntKind.i64.wrap (n + x.data.length) = addW n x.data.length := rfl
      have hln := congrArg List.length hdr
      rw [List.length_drop, List.length_cons] at hln
      have hi : l.length - (x :: xs).length = i := by rw [List.length_cons]; omega
      have hi1 : l.length - xs.length = i + 1 := by omega
      rw [hi] at hinv
      simp +contextual only [go_sem, ↓reduceIte, Nat.reduceEqDiff, Nat.reduceAdd, Nat.reduceLeDiff, Nat.reduceLT, reduceCtorEq, k8, lt_dec hlt, hx, hw, hwn, List.length_map, List.getElem?_map, Option.map_some, Int.natCast_nonneg, Int.toNat_natCast]
      refine ⟨fun h => ?_, fun h => ⟨addW n x.data.length, ?_, .back rfl ?_⟩⟩
      · rw [← hinv]; simp only [lngO, h, cond_true]
      · dsimp only
        rw [hi1, ← hinv]; simp only [lngO, h, cond_false]
      · simp +contextual only [go_sem, ↓reduceIte, Nat.reduceEqDiff, Nat.reduceAdd, Nat.reduceLeDiff, Nat.reduceLT, reduceCtorEq]
  · cases h

/-- Too many calls, or too long ones. -/
def lngL : List OpD → Int → Nat → Bool
  | [], n, _ => decide (n > 600)
  | x :: l, n, i => bif decide ((i : Int) ≥ 100) || lngO x.objects 0 0 then true else lngL l (addW n x.objects.length) (i + 1)
abbrev SLgl : List V → Option V := FT fun (t : List OpD × Unit) => if t.1.length ≤ 9223372036854775807 ∧ t.1.all (fun x => decide (x.objects.length ≤ 9223372036854775807)) = true then some (lngL t.1 0 0) else none
theorem con12 {Φ : Specs} (hg : Idl.Good Try.prog Φ) (h8 : Φ 8 = some SLng) : Contract Try.prog 12 SLgl := by
  refine conT hg k12 ic12 (by decide) fun C t r h => ?_
  obtain ⟨l, u⟩ := t
  dsimp only at h
  split at h
  · rename_i hl
    obtain ⟨hl, ho⟩ := hl
    simp only [List.all_eq_true, decide_eq_true_eq] at ho
    cases h
    simp +contextual only [go_sem, ↓reduceIte, Nat.reduceEqDiff, Nat.reduceAdd, Nat.reduceLeDiff, Nat.reduceLT, reduceCtorEq, c12, k12, List.length_map]
    refine TriI.loopL hg k12 l (fun i (n : Int) => ⟨slotsL [(0, Cod.enc l), (3, .sc (.int .i64 n)), (6, .sc (.int .i64 l.length)), (7, .sc (.int .i64 i))], objsL [], 0⟩) (fun xs n => lngL xs n (l.length - xs.length) = lngL l 0 0 ∧ ∀ x, x ∈ xs → x.objects.length ≤ 9223372036854775807) 0 (.back rfl ?_) ⟨by rw [Nat.sub_self], ho⟩ ?_ ?_
    · simp +contextual only [go_sem, ↓reduceIte, Nat.reduceEqDiff, Nat.reduceAdd, Nat.reduceLeDiff, Nat.reduceLT, reduceCtorEq]
      trivial
    · intro n hinv
      simp +contextual only [go_sem, ↓reduceIte, Nat.reduceEqDiff, Nat.reduceAdd, Nat.reduceLeDiff, Nat.reduceLT, reduceCtorEq, k12, Int.lt_irrefl, decide_false]
      exact hinv.1
    · intro i n x xs hdr hlt hx hinv
      obtain ⟨hinv, hos⟩ := hinv
      have hxo := hos x (by simp)
      have hw := wrap_nat hlt (by omega)
      have hwn : IntKind.i64.wrap (n + x.objects.length) = addW n x.objects.length := rfl
      have hln := congrArg List.length hdr
      rw [List.length_drop, List.length_cons] at hln
      have hi : l.length - (x :: xs).length = i := by rw [List.length_cons]; omega
      have hi1 : l.length - xs.length = i + 1 := by omega
      rw [hi] at hinv
      simp +contextual only [go_sem, ↓reduceIte, Nat.reduceEqDiff, Nat.reduceAdd, Nat.reduceLeDiff, Nat.reduceLT, reduceCtorEq, k12, lt_dec hlt, hx, hw, hwn, h8, hxo, List.length_map, List.getElem?_map, Option.map_some, Int.natCast_nonneg, Int.toNat_natCast]
      refine ⟨fun h => ?_, fun h => ⟨addW n x.objects.length, ⟨?_, fun y hy => hos y (by simp [hy])⟩, .back rfl ?_⟩⟩
      · rw [← hinv]; simp only [lngL, h, cond_true]
      · rw [hi1, ← hinv]; simp only [lngL, h, cond_false]
      · simp +contextual only [go_sem, ↓reduceIte, Nat.reduceEqDiff, Nat.reduceAdd, Nat.reduceLeDiff, Nat.reduceLT, reduceCtorEq]
  · cases h
end Go.Proofs.Ytaagkdmmdgajjaa
