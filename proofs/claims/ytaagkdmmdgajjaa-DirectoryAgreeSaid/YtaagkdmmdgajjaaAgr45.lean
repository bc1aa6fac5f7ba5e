/- The puts among calls. -/
import Derived.Test.YtaagkdmmdgajjaaLaw45f
namespace Go.Proofs.Ytaagkdmmdgajjaa
set_option linter.all false
open Go.Idl
set_option maxHeartbeats 4000000
set_option maxRecDepth 100000
attribute [local go_sem] eqOK agObj agDir agOK agSh agMk agOp Try.underlying3 Try.underlying5 Try.underlying9 Try.underlying4
theorem con27 {Φ : Specs} (hg : Idl.Good Try.prog Φ) : Contract Try.prog 27 (FT fun (t : OpD × Unit) => some (t.1.kind != 1)) := by
  refine conT hg k27 ic27 (by decide) fun C t r h => ?_
  obtain ⟨x, u⟩ := t
  cases h
  simp +contextual only [go_sem, ↓reduceIte, Nat.reduceEqDiff, Nat.reduceAdd, Nat.reduceLeDiff, Nat.reduceLT, reduceCtorEq, c27, k27]
theorem lenNil {P : Program} {t e : TypeId} (h : P.underlying t = some (.slice e)) {τ : Nat → V} {k ty : Nat} (hx : τ k = .sc (.slice none 0 0)) :
    lenI P τ (pu (.call ⟨.builtin .len, #[.tmp k], #[t]⟩) ty) (.sc (.slice none 0 0)) = some (.sc (.int .i64 0), []) := by
  show evPure P (opd τ) _ = _
  refine evPure_of (v := .int .i64 0) ?_ (by simp [pu]) ?_
  · simp [pu, Op.operands, Call.operands, opd, hx, V.conc]
  · simp [pu, execOp, opd, hx, V.conc, runPure_bind, runPure_pure, runPure_underlying h, resolve, invoke, builtin, Builtin.len_, goInt]
theorem ft_one {α γ : Type} [Cod α] [CodR γ] (g : α × Unit → Option γ) (a : α) : FT g [Cod.enc a] = FTc (g (a, ())) := by
  simp only [FT, decA_cons, decA_unit, Cod.dec_enc, dec2, FTb]
theorem stepI_clear {P : Program} {C : Ctx} {Φ : Specs} {Q : SF → Prop} {rest : List IOp} {t e : TypeId} {ty sz : Nat} {zv : Value} {z : V} (ht : P.underlying t = some (.slice e)) (hz : zeroT P e = some zv) (hzs : zv.cells.size = sz) (hpos : 0 < sz) (h1 : ∀ x ∈ zv.cells.toList, x.oneCell' = true)
    (hzc : z.cells = zv.cells.toList.map .sc) {τ : Nat → V} {H : Heap} {n k id off len : Nat} {es : List V} {E : Option (V × List (Nat × Idl.Obj))} (hx : τ k = .own id off len) (hH : H id = .live sz es true) (hle : off + len ≤ es.length)
    (h : seqI P Φ C Q rest ⟨τ, updH H id (.live sz (es.take off ++ List.replicate len z ++ es.drop (off + len)) true), n⟩) (hE : E = none) :
    stepI P Φ C Q rest none (some (.pur (pu (.call ⟨.builtin .clear, #[.tmp k], #[t]⟩) ty))) τ H n E := by
  subst hE
  exact opT_clear (P := P) (C := C) (K := fun v s' => seqI P Φ C Q rest ⟨putF τ none v, s'.H, s'.n⟩) ht hz hzs hpos h1 hzc hx hH hle h
theorem clear_none {P : Program} {Φ : Specs} {τ : Nat → V} {H : Heap} {n k id off len ty : Nat} {t : TypeId} (hx : τ k = .own id off len) : evIO P Φ n τ H (.pur (pu (.call ⟨.builtin .clear, #[.tmp k], #[t]⟩) ty)) = none := by
  simp only [evIO, evPure]
  rw [if_neg]
  simp [pu, Op.operands, Call.operands, opd, hx, V.conc]
def isPut (x : OpD) : Bool := !(x.kind != 1)
def idxP : List OpD → Nat → Int
  | [], _ => -1
  | x :: xs, i => bif x.kind != 1 then (i : Int) else idxP xs (i + 1)
abbrev SPuts : List V → Option V := FT fun (t : List OpD × Unit) => if t.1.length ≤ 100 then some (t.1.filter isPut) else none
theorem isF_ops (l : List OpD) : (l.map Cod.enc).all V.isF = true := by
  simp only [List.all_map, List.all_eq_true]
  intro x _
  rfl
theorem low_ops (n : Nat) (l : List OpD) : (l.map Cod.enc).all (V.low n) = true := by
  simp only [List.all_map, List.all_eq_true]
  intro x _
  rfl
theorem okE_ops (l : List OpD) : (l.map Cod.enc).all (okE 2) = true := by
  simp only [List.all_map, List.all_eq_true]
  intro x _
  rfl
theorem con24 {Φ : Specs} (hg : Idl.Good Try.prog Φ) (h1 : Φ 26 = none) (h2 : Φ 25 = none)
    (h3 : Φ 45 = none) : Contract Try.prog 24 SPuts := by
  refine conT hg k24 ic24 (by decide) fun C t r h => ?_
  obtain ⟨l, u⟩ := t
  dsimp only at h
  split at h
  · rename_i hl
    cases h
    simp +contextual only [go_sem, ↓reduceIte, Nat.reduceEqDiff, Nat.reduceAdd, Nat.reduceLeDiff, Nat.reduceLT, reduceCtorEq, c24, k24, h1, h2]
    refine CallT.of_walk hg k26 ic26 (by simp) fun C1 hlow1 => ?_
    have hl1 : LowC C1 0 := hlow1 0 (by repeat (first | exact LowT.pnil | apply LowT.upd | apply LowT.prune | apply LowT.pcons | rfl)) (LowC.top _ _)
    simp +contextual only [go_sem, ↓reduceIte, Nat.reduceEqDiff, Nat.reduceAdd, Nat.reduceLeDiff, Nat.reduceLT, reduceCtorEq, c26, k26]
    refine stepI_nil Try.underlying31 rfl fun b hb => ?_
    cases b with
    | true =>
      have h0 : l = [] := by simpa using hb rfl
      subst h0
      simp +contextual only [go_sem, ↓reduceIte, Nat.reduceEqDiff, Nat.reduceAdd, Nat.reduceLeDiff, Nat.reduceLT, reduceCtorEq, k26]
      refine CallT.of_walk hg k25 ic25 (by simp) fun C2 hlow2 => ?_
      simp +contextual only [go_sem, ↓reduceIte, Nat.reduceEqDiff, Nat.reduceAdd, Nat.reduceLeDiff, Nat.reduceLT, reduceCtorEq, c25, k25, h3]
      refine CallT.of_walk hg k45 ic45 (by simp) fun C3 hlow3 => ?_
      simp +contextual only [go_sem, ↓reduceIte, Nat.reduceEqDiff, Nat.reduceAdd, Nat.reduceLeDiff, Nat.reduceLT, reduceCtorEq, c45, k45, lenNil Try.underlying31]
      refine TriI.loopL hg k45 ([] : List OpD) (fun i (_ : Unit) => ⟨slotsL [(7, .sc (.int .i64 0)), (8, .sc (.int .i64 i))], objsL [], 0⟩) (fun _ _ => True) () (.back rfl ?_ (hlow3 0 (by repeat (first | exact LowT.pnil | apply LowT.upd | apply LowT.prune | apply LowT.pcons | rfl)) (hlow2 0 (by repeat (first | exact LowT.pnil | apply LowT.upd | apply LowT.prune | apply LowT.pcons | rfl)) (LowC.top _ _)))) trivial ?_ ?_
      · simp +contextual only [go_sem, ↓reduceIte, Nat.reduceEqDiff, Nat.reduceAdd, Nat.reduceLeDiff, Nat.reduceLT, reduceCtorEq]
        rfl
      · intro _ _
        have hz : ((0 : Nat) : Int) = 0 := rfl
        simp +contextual only [go_sem, ↓reduceIte, Nat.reduceEqDiff, Nat.reduceAdd, Nat.reduceLeDiff, Nat.reduceLT, reduceCtorEq, k45, Int.lt_irrefl, decide_false, List.length_nil, hz]
        rfl
      · intro i _ x xs hdr
        simp at hdr
    | false =>
      have b1 : l.length * 32 ≤ 68719476736 := by omega
      have b2 : l.length ≤ 4294967296 := by omega
      simp +contextual only [go_sem, ↓reduceIte, Nat.reduceEqDiff, Nat.reduceAdd, Nat.reduceLeDiff, Nat.reduceLT, reduceCtorEq, k26, List.length_map, List.length_nil, okE_ops, b1, b2, Nat.zero_add, true_and, and_true]
      refine CallT.of_walk hg k25 ic25 (by simp) fun C2 hlow2 => ?_
      have hl2 : LowC C2 2 := hlow2 2 (by repeat (first | exact LowT.pnil | apply LowT.upd | apply LowT.prune | apply LowT.pcons | rfl | exact low_ops _ _)) (LowC.top _ _)
      simp +contextual only [go_sem, ↓reduceIte, Nat.reduceEqDiff, Nat.reduceAdd, Nat.reduceLeDiff, Nat.reduceLT, reduceCtorEq, c25, k25, h3]
      refine CallT.of_walk hg k45 ic45 (by simp) fun C3 hlow3 => ?_
      have hl3 : LowC C3 2 := hlow3 2 (by repeat (first | exact LowT.pnil | apply LowT.upd | apply LowT.prune | apply LowT.pcons | rfl | exact low_ops _ _)) hl2
      simp +contextual only [go_sem, ↓reduceIte, Nat.reduceEqDiff, Nat.reduceAdd, Nat.reduceLeDiff, Nat.reduceLT, reduceCtorEq, c45, k45]
      refine TriI.loopL hg k45 l (fun i (_ : Unit) => ⟨slotsL [(0, .own 1 0 l.length), (1, .sc (.func (.func 27) #[] #[])), (7, .sc (.int .i64 l.length)), (8, .sc (.int .i64 i))], objsL [.dead, .live 2 (l.map Cod.enc) true], 2⟩)
        (fun xs _ => (l.take (l.length - xs.length)).all isPut = true) () (.back rfl ?_) (by rw [Nat.sub_self]; rfl) ?_ ?_
      · simp +contextual only [go_sem, ↓reduceIte, Nat.reduceEqDiff, Nat.reduceAdd, Nat.reduceLeDiff, Nat.reduceLT, reduceCtorEq, low_ops]
        rfl
      · intro _ hinv
        simp +contextual only [go_sem, ↓reduceIte, Nat.reduceEqDiff, Nat.reduceAdd, Nat.reduceLeDiff, Nat.reduceLT, reduceCtorEq, k45, Int.lt_irrefl, decide_false]
        have hall : l.filter isPut = l := by
          rw [List.filter_eq_self]
          have h4 : l.all isPut = true := by simpa using hinv
          simpa [List.all_eq_true] using h4
        have hT : (l.map Cod.enc).take l.length = l.map Cod.enc := List.take_of_length_le (by simp)
        simp +contextual only [go_sem, ↓reduceIte, Nat.reduceEqDiff, Nat.reduceAdd, Nat.reduceLeDiff, Nat.reduceLT, reduceCtorEq, List.length_map, Nat.zero_add, Nat.le_refl, isF_ops, hT, hall, true_and, and_self, decL_enc Cod.dec_enc]
      · intro i _ x xs hdr hlt hx hinv
        have hw := wrap_nat hlt (by omega)
        have hln := congrArg List.length hdr
        rw [List.length_drop, List.length_cons] at hln
        have hli : (i : Int) < (l.length : Int) := by omega
        simp +contextual only [go_sem, ↓reduceIte, Nat.reduceEqDiff, Nat.reduceAdd, Nat.reduceLeDiff, Nat.reduceLT, reduceCtorEq, k45, lt_dec hlt, hli, hx, hw, List.length_map, List.getElem?_map, Option.map_some, Int.natCast_nonneg, Int.toNat_natCast, Nat.zero_add]
        refine callT_con (facts_enters ic27) (con27 hg) (r := .sc (.bool (x.kind != 1))) (ft_one _ x) (by rfl) ?_
        simp +contextual only [go_sem, ↓reduceIte, Nat.reduceEqDiff, Nat.reduceAdd, Nat.reduceLeDiff, Nat.reduceLT, reduceCtorEq, k45, hw]
        have hni : ((i : Int) == -1) = false := by simp
        have hw1 : IntKind.i64.wrap ((i : Int) + 1) = ((i + 1 : Nat) : Int) := by rw [IntKind.wrap_i64]; omega
        have htk : l.length - (x :: xs).length = i := by rw [List.length_cons]; omega
        rw [htk] at hinv
        have htx : l.take (i + 1) = l.take i ++ [x] := by rw [List.take_add_one, hx]; rfl
        refine ⟨fun h => ⟨fun h' => absurd (hni.symm.trans h') (by decide), fun _ => ?_⟩, fun h => ⟨(), ?_, .back rfl ?_⟩⟩
        · have hxp : isPut x = false := by simp [isPut, h]
          have hft : (l.take i).filter isPut = l.take i := by
            rw [List.filter_eq_self]
            simpa [List.all_eq_true] using hinv
          have hld : (l.drop (i + 1)).length = l.length - (i + 1) := by simp
          refine TriI.loopL hg k25 (l.drop (i + 1)) (fun j (A : List OpD × Nat) => ⟨slotsL [(0, .own 1 0 l.length), (1, .sc (.func (.func 27) #[] #[])), (5, .sc (.int .i64 A.2)), (6, .sc (.int .i64 ((i + 1 + j : Nat) : Int)))], objsL [.dead, .live 2 (A.1.map Cod.enc) true], 2⟩)
            (fun ys A => A.1.length = l.length ∧ A.2 < l.length - ys.length ∧ A.1.take A.2 = (l.take (l.length - ys.length)).filter isPut ∧ A.1.drop (l.length - ys.length) = ys) (l, i) (.back rfl ?_) ?_ ?_ ?_
          · simp +contextual only [go_sem, ↓reduceIte, Nat.reduceEqDiff, Nat.reduceAdd, Nat.reduceLeDiff, Nat.reduceLT, reduceCtorEq, low_ops]
          · have hi1 : l.length - (l.drop (i + 1)).length = i + 1 := by omega
            refine ⟨rfl, ?_, ?_, ?_⟩
            · rw [hi1]; exact Nat.lt_succ_self _
            · rw [hi1, htx, List.filter_append, hft]
              simp [hxp]
            · rw [hi1]
          · intro A hinv2
            obtain ⟨g1, g2, g3, g4⟩ := hinv2
            have hge : decide (((i + 1 + (l.drop (i + 1)).length : Nat) : Int) < (l.length : Int)) = false := by simp; omega
            rw [List.length_nil, Nat.sub_zero] at g2 g3
            have hAle : A.2 ≤ l.length := by omega
            have hAe : 0 + A.2 + (l.length - A.2) ≤ (A.1.map Cod.enc).length := by rw [List.length_map]; omega
            simp +contextual only [go_sem, ↓reduceIte, Nat.reduceEqDiff, Nat.reduceAdd, Nat.reduceLeDiff, Nat.reduceLT, reduceCtorEq, k25, hge, hAle, List.length_map, g1, Option.map_none, Nat.le_refl, true_and, and_true, Int.natCast_nonneg, Int.toNat_natCast]
            refine stepI_clear (sz := 2) (e := 52) (zv := .agg #[.int .i64 0, .slice none 0 0]) (z := .agg [.sc (.int .i64 0), .sc (.slice none 0 0)]) Try.underlying31 (by kernel_rfl) rfl (by decide) (by intro x hx; simp [Value.cells] at hx; rcases hx with rfl | rfl <;> rfl) rfl (es := A.1.map Cod.enc) rfl rfl hAe ?_ ?_
            · rw [Nat.zero_add] at hAe ⊢
              have hdr0 : (A.1.map Cod.enc).drop (A.2 + (l.length - A.2)) = [] := List.drop_eq_nil_of_le (by rw [List.length_map]; omega)
              rw [hdr0, List.append_nil]
              have hfl : l.filter isPut = A.1.take A.2 := by rw [g3, List.take_length]
              have htl : ((A.1.map Cod.enc).take A.2).length = A.2 := by simp; omega
              have hTT : ((A.1.map Cod.enc).take A.2 ++ List.replicate (l.length - A.2) (V.agg [.sc (.int .i64 0), .sc (.slice none 0 0)])).take A.2 = (l.filter isPut).map Cod.enc := by
                rw [List.take_append_of_le_length (by omega), List.take_of_length_le (by omega), hfl, List.map_take]
              have hFF : ((A.1.map Cod.enc).take A.2 ++ List.replicate (l.length - A.2) (V.agg [.sc (.int .i64 0), .sc (.slice none 0 0)])).all V.isF = true := by
                rw [List.all_append, ← List.map_take, isF_ops, Bool.true_and]
                simp only [List.all_eq_true]
                intro v hv
                rw [(List.mem_replicate.1 hv).2]; rfl
              have hLL : A.2 ≤ ((A.1.map Cod.enc).take A.2 ++ List.replicate (l.length - A.2) (V.agg [.sc (.int .i64 0), .sc (.slice none 0 0)])).length := by rw [List.length_append, htl]; omega
              simp +contextual only [go_sem, ↓reduceIte, Nat.reduceEqDiff, Nat.reduceAdd, Nat.reduceLeDiff, Nat.reduceLT, reduceCtorEq, k25, hAle, Option.map_none, Nat.le_refl, Nat.zero_le, Nat.sub_zero, Nat.zero_add, true_and, and_true, Int.natCast_nonneg, Int.toNat_natCast, List.drop_zero, hTT, hFF, hLL, decL_enc Cod.dec_enc]
            · exact clear_none rfl
          · intro j A y ys hdr2 hlt2 hy hinv2
            obtain ⟨g1, g2, g3, g4⟩ := hinv2
            have hln2 := congrArg List.length hdr2
            rw [List.length_drop, List.length_cons] at hln2
            rw [hld] at hlt2 hln2
            have hw2 : IntKind.i64.wrap (((i + 1 + j : Nat) : Int) + 1) = ((i + 1 + (j + 1) : Nat) : Int) := by rw [IntKind.wrap_i64]; omega
            have hge : decide (((i + 1 + j : Nat) : Int) < (l.length : Int)) = true := by simp; omega
            have hlj : ((i + 1 + j : Nat) : Int) < (l.length : Int) := by omega
            have hk : l.length - (y :: ys).length = i + 1 + j := by rw [List.length_cons]; omega
            rw [hk] at g2 g3 g4
            have hyl : l[i + 1 + j]? = some y := by rw [List.getElem?_drop] at hy; exact hy
            have hyA : A.1[i + 1 + j]? = some y := by rw [← List.head?_drop, g4]; rfl
            have hA2 : ((A.2 : Nat) : Int) < (l.length : Int) := by omega
            have hw3 : IntKind.i64.wrap ((A.2 : Int) + 1) = ((A.2 + 1 : Nat) : Int) := by rw [IntKind.wrap_i64]; omega
            simp +contextual only [go_sem, ↓reduceIte, Nat.reduceEqDiff, Nat.reduceAdd, Nat.reduceLeDiff, Nat.reduceLT, reduceCtorEq, k25, hge, hlj, hyA, hw2, List.length_map, List.getElem?_map, Option.map_some, Int.natCast_nonneg, Int.toNat_natCast, Nat.zero_add]
            refine callT_con (facts_enters ic27) (con27 hg) (r := .sc (.bool (y.kind != 1))) (ft_one _ y) (by rfl) ?_
            have hAl : A.2 < A.1.length := by omega
            have hAt : A.1[A.2]? = some A.1[A.2] := List.getElem?_eq_getElem hAl
            have htj : l.take (i + 1 + j + 1) = l.take (i + 1 + j) ++ [y] := by rw [List.take_add_one, hyl]; rfl
            have hys : l.length - ys.length = i + 1 + j + 1 := by omega
            cases hyk : (y.kind != 1) with
            | true =>
              have hyp : isPut y = false := by simp [isPut, hyk]
              simp +contextual only [go_sem, ↓reduceIte, Nat.reduceEqDiff, Nat.reduceAdd, Nat.reduceLeDiff, Nat.reduceLT, reduceCtorEq, k25, hw2]
              refine ⟨A, ⟨g1, by omega, ?_, ?_⟩, .back rfl ?_⟩
              · rw [hys, htj, List.filter_append, g3]; simp [hyp]
              · rw [hys, ← List.drop_drop, g4]; rfl
              · simp +contextual only [go_sem, ↓reduceIte, Nat.reduceEqDiff, Nat.reduceAdd, Nat.reduceLeDiff, Nat.reduceLT, reduceCtorEq, low_ops]
            | false =>
              have hyp : isPut y = true := by simp [isPut, hyk]
              simp +contextual only [go_sem, ↓reduceIte, Nat.reduceEqDiff, Nat.reduceAdd, Nat.reduceLeDiff, Nat.reduceLT, reduceCtorEq, k25, hw2, hw3, hA2, hAt, List.length_map, List.getElem?_map, Option.map_some, Int.natCast_nonneg, Int.toNat_natCast, Nat.zero_add]
              refine ⟨(A.1.set A.2 y, A.2 + 1), ⟨by simpa using g1, by dsimp only; omega, ?_, ?_⟩, .back rfl ?_⟩
              · rw [hys, htj, List.filter_append, ← g3, List.take_add_one, List.take_set_of_le (Nat.le_refl _)]
                simp [hyp, hAl]
              · rw [hys, List.drop_set_of_lt (by omega), ← List.drop_drop, g4]; rfl
              · have hset : (A.1.map Cod.enc).set A.2 (V.agg [.sc (.int .i64 y.kind), .slice 6 (y.objects.map Cod.enc)]) = (A.1.set A.2 y).map Cod.enc := by rw [List.map_set]; rfl
                simp +contextual only [go_sem, ↓reduceIte, Nat.reduceEqDiff, Nat.reduceAdd, Nat.reduceLeDiff, Nat.reduceLT, reduceCtorEq, hset, low_ops]
        · have hxp : isPut x = true := by simp [isPut, h]
          have : l.length - xs.length = i + 1 := by omega
          show (l.take (l.length - xs.length)).all isPut = true
          rw [this, htx, List.all_append, hinv]
          simp [hxp]
        · simp +contextual only [go_sem, ↓reduceIte, Nat.reduceEqDiff, Nat.reduceAdd, Nat.reduceLeDiff, Nat.reduceLT, reduceCtorEq, low_ops]
  · cases h
end Go.Proofs.Ytaagkdmmdgajjaa
